/-
  Small laws for functions that hold ranges over a function: marks among the deferred calls, what a round keeps, calls inside the wide fence. No program in sight.
-/
import Derived.RangeFuncNested
import Derived.RangeFuncBound
import Derived.RangeFuncCalls
import Derived.RangeFuncLeaves
import Derived.RangeFuncBox
import Derived.Shelf.Abstract
import Derived.Shelf.RegionOpen
import Derived.WalkKit
import Derived.OwnWalkIn
import Derived.TacticsInMore
import Derived.LoopNIn
import Derived.LoopIn
import Derived.Sort.QuietIn
import Derived.Test.YtfjbodaakmapdaaKit
namespace Go.Proofs.Ytfjbodaakmapdaa.Kit
open Go.RowKit

/-! ### What has changed: the blocks in S alone, and what is new -/
/-- Of what lay in w, only the blocks in S may have changed. -/
structure But (S : Nat → Prop) (w w' : World) : Prop where
  os : w'.os = w.os
  tape : w'.tape = w.tape
  output : w'.output = w.output
  size : w.heap.size ≤ w'.heap.size
  block : ∀ k, k < w.heap.size → ¬ S k → w'.heap[k]? = w.heap[k]?

variable {S : Nat → Prop} {w w' w'' : World}
theorem But.refl (S : Nat → Prop) (w : World) : But S w w := ⟨rfl, rfl, rfl, Nat.le_refl _, fun _ _ _ => rfl⟩
theorem But.trans (h : But S w w') (k : But S w' w'') : But S w w'' :=
  ⟨k.os.trans h.os, k.tape.trans h.tape, k.output.trans h.output, Nat.le_trans h.size k.size, fun i hi hs => (k.block i (Nat.lt_of_lt_of_le hi h.size) hs).trans (h.block i hi hs)⟩
theorem But.drewN (h : But S w w') (n : Nat) : But S w (w'.drewN n) := ⟨h.os, h.tape, h.output, h.size, h.block⟩
theorem But.drew (h : But S w w') : But S w w'.drew := ⟨h.os, h.tape, h.output, h.size, h.block⟩
theorem But.alloc (h : But S w w') (o : Obj) : But S w (w'.alloc o) :=
  h.trans ⟨rfl, rfl, rfl, by simp, fun k hk _ => Below.heap_alloc _ _ _ hk⟩
theorem But.set (h : But S w w') {p : Addr} (hp : S p.block ∨ w.heap.size ≤ p.block) (v : Value) : But S w (w'.setCell p v) :=
  ⟨h.os, h.tape, h.output, Nat.le_trans h.size (by simp [World.setCell]), fun k hk hs => (Below.heap_setCell w' p v k (fun e => hp.elim (fun hp => hs (e ▸ hp)) (fun hp => by omega))).trans (h.block k hk hs)⟩
theorem But.grown {row : Option Nat} (h : But S w w') (hg : w'.grownBy w'' row) (hr : ∀ k, row = some k → S k ∨ w.heap.size ≤ k) : But S w w'' :=
  ⟨hg.os.trans h.os, hg.tape.trans h.tape, hg.output.trans h.output, Nat.le_trans h.size hg.size, fun k hk hs =>
    (hg.block k (Nat.lt_of_lt_of_le hk h.size) (fun e => (hr k e.symm).elim (fun h1 => hs h1) (fun h1 => by omega))).trans (h.block k hk hs)⟩
theorem But.below {B : Nat} (h : But S w w') (hB : B ≤ w.heap.size) (hS : ∀ k, S k → B ≤ k) : Below B w w' :=
  ⟨h.os, h.tape, h.output, h.size, fun k hk => h.block k (by omega) (fun hs => by have := hS k hs; omega)⟩
theorem But.of_below (h : Below w.heap.size w w') : But S w w' := ⟨h.os, h.tape, h.output, h.size, fun k hk _ => h.block k hk⟩
theorem But.mono {S' : Nat → Prop} (h : But S w w') (hs : ∀ k, S k → S' k) : But S' w w' := ⟨h.os, h.tape, h.output, h.size, fun k hk hn => h.block k hk (fun hk' => hn (hs k hk'))⟩
theorem Blk.but {b t : Nat} {cs : Array Value} (h : Blk w b cs t) (hb : But S w w') (hs : ¬ S b) : Blk w' b cs t := ⟨(hb.block b h.lt hs).trans h.out⟩

/-! ### A turn of a block that is no cells -/
abbrev Turn (B : Nat) (w : World) (row : Option Nat) : Prop := ∀ r, row = some r → B ≤ r ∧ ∃ o : Obj, w.heap[r]? = some o ∧ o.isCells = false
theorem Blk.turn {b t B : Nat} {cs : Array Value} {row : Option Nat} (h : Blk w b cs t) (hg : w.grownBy w' row) (hr : Turn B w row) : Blk w' b cs t :=
  h.grown hg (fun e => by obtain ⟨_, o, ho, hc⟩ := hr b e.symm; rw [h.out] at ho; cases ho; cases hc)
theorem But.turn {row : Option Nat} (h : But S w w') (hg : w'.grownBy w'' row) (hr : Turn w.heap.size w' row) : But S w w'' := h.grown hg (fun k e => .inr (hr k e).1)

theorem keepsO_drewN (W : World) (n : Nat) : KeepsOthers W (W.drewN n) := ⟨Nat.le_refl _, fun _ _ h _ => h⟩

/-! ### Marks among the deferred calls -/
/-- The deferred calls are marks of loops that have ended, the newest first; their blocks lie from B on, below top. -/
def Marks (B : Nat) (w : World) : List Deferred → Nat → Prop
  | [], _ => True
  | d :: ds, top => ∃ D, d = { target := .collected D, args := #[] } ∧ B ≤ D ∧ D < top ∧ w.heap[D]? = some (.deferred (some [])) ∧ Marks B w ds D

theorem Marks.imp {B : Nat} : ∀ {ds : List Deferred} {top : Nat}, (∀ D, B ≤ D → D < top → w.heap[D]? = some (.deferred (some [])) → w'.heap[D]? = some (.deferred (some []))) → Marks B w ds top → Marks B w' ds top
  | [], _, _, _ => trivial
  | _ :: _, _, h, ⟨D, e, h1, h2, h3, h4⟩ => ⟨D, e, h1, h2, h D h1 h2 h3, Marks.imp (fun D' a b c => h D' a (by omega) c) h4⟩
theorem Marks.others {B : Nat} {ds : List Deferred} {top : Nat} (h : Marks B w ds top) (hk : KeepsOthers w w') : Marks B w' ds top := h.imp fun D _ _ h3 => hk.same D _ h3 rfl
theorem Marks.up {B : Nat} {ds : List Deferred} {top top' : Nat} (h : Marks B w ds top) (ht : top ≤ top') : Marks B w ds top' := by
  cases ds with
  | nil => trivial
  | cons d ds => obtain ⟨D, e, h1, h2, h3, h4⟩ := h; exact ⟨D, e, h1, by omega, h3, h4⟩
theorem Marks.but {B : Nat} {ds : List Deferred} {top : Nat} (h : Marks B w ds top) (hb : But S w w') (ht : top ≤ w.heap.size) (hS : ∀ D, w.heap[D]? = some (.deferred (some [])) → ¬ S D) : Marks B w' ds top :=
  h.imp fun D _ h2 h3 => (hb.block D (by omega) (hS D h3)).trans h3
theorem Marks.set {B : Nat} {ds : List Deferred} {top : Nat} (h : Marks B w ds top) (p : Addr) (v : Value) : Marks B (w.setCell p v) ds top := h.others (KeepsOthers.setCell w p v)
theorem Marks.alloc {B : Nat} {ds : List Deferred} {top : Nat} (h : Marks B w ds top) (o : Obj) : Marks B (w.alloc o) ds top := h.others (KeepsOthers.alloc w o)
theorem Marks.drewN {B : Nat} {ds : List Deferred} {top : Nat} (h : Marks B w ds top) (n : Nat) : Marks B (w.drewN n) ds top := h.others (keepsO_drewN w n)
theorem Marks.below {B : Nat} {ds : List Deferred} {top : Nat} (h : Marks B w ds top) (hb : Below w.heap.size w w') : Marks B w' ds top :=
  h.imp fun D _ _ h3 => (hb.block D (Array.getElem?_eq_some_iff.1 h3).1).trans h3
theorem Marks.put {B D : Nat} {ds : List Deferred} {o : Obj} (h : Marks B w ds D) : Marks B (w.putObj D o) ds D :=
  h.imp fun D' _ h2 h3 => (World.putObj_heap_other (by omega)).trans h3

theorem below_put {B D : Nat} (hD : B ≤ D) (w : World) (o : Obj) : Below B w (w.putObj D o) :=
  (Below.refl B w).trans ⟨rfl, rfl, rfl, by simp [World.putObj], fun k hk => World.putObj_heap_other (by omega)⟩

/-- A function's return behind marks. -/
theorem leaves_marks {F : Fence} {n : Nat} {P : Program} {fn : Func} {tmps : Array Value} {R : Ending → World → Prop} {v : Value} {B : Nat} : ∀ (ds : List Deferred) (w : World) (top : Nat),
    Marks B w ds top → (∀ w', (results fn tmps).run P w' = .ok v w') → (∀ w', Below B w w' → R (.returned v) w') → LeavesInM F n P fn tmps R ds .returning w
  | [], w, _, _, hr, hR => ⟨v, hr w, hR w (Below.refl _ _)⟩
  | _ :: ds, w, _, ⟨D, e, h1, _, h3, h4⟩, hr, hR => by
    subst e
    exact ⟨by simp, .inl ⟨D, _, rfl, run_takeDeferred h3, leaves_marks ds _ D h4.put hr fun w' hb => hR w' ((below_put h1 w _).trans hb)⟩⟩

/-! ### Calls inside the wide fence -/
theorem wide_call {n : Nat} {P : Program} {f : FuncId} {args : Array Value} {w : World} {R R' : Ending → World → Prop} (h : Calls P f args w R') (hr : ∀ e w', R' e w' → R e w') :
    Fence.wide.fn f ∧ CallsIn Fence.wide n P f args w R := ⟨trivial, callsIn_wide.2 (h.mono hr)⟩
theorem round_call {n l : Nat} {P : Program} {f : FuncId} {args : Array Value} {w : World} {R R' : Ending → World → Prop} (h : Calls P f args w R') (hr : ∀ e w', R' e w' → R e w') :
    (Fence.wide.inRound l).fn f ∧ CallsIn (Fence.wide.inRound l) n P f args w R := ⟨trivial, CallsIn.inRound l (callsIn_wide.2 (h.mono hr))⟩

/-- A whole array stored into the block that was just made: the world behind it by name (inside a fence). -/
theorem wpListIn_store_new {F : Fence} {n : Nat} {P : Program} {ops : Array Oper} {rest : List Oper} {o : Oper} {a : Act} {w : World} {Q : Exit → Act → World → Prop} (hgd : o.guard = none) (ty : TypeId) (x y : Operand) (ho : o.op = .store ty x y)
    (W : World) (z : Array Value) (e : TypeId) (cells : Array Value) (hw : w = W.alloc (.cells z e)) (hx : a.eval x = .pointer (some ⟨W.heap.size, 0, none⟩)) (hy : a.eval y = .agg cells)
    (hz : z.size = cells.size) (hi : (P.info? ty).map (·.size) = some cells.size) (h1 : OneC cells)
    (h : ∀ w' : World, Below W.heap.size W w' → W.heap.size < w'.heap.size → Blk w' W.heap.size cells e → wpListIn F n P ops Q rest (a.put o.dst undef) w') : wpListIn F n P ops Q (o :: rest) a w := by
  subst hw
  have hb := Blk.new W z e
  have hb2 := hb.puts cells.toList 0
  rw [put_all _ _ hz] at hb2
  refine wpListIn_plain hgd fun K hK => ?_
  unfold Oper.wpIn
  refine ⟨?_, ?_⟩
  · simp [Oper.about, ho]
  · rw [Oper.semAt_plain F _ _ (by rw [ho]; intro c hc'; cases hc')]
    have hr := run_storeAt_mid (P := P) (W.alloc (.cells z e)) W.heap.size 0 ty cells (hb.there (by omega)) hi h1
    simp only [execOp, ho, hx, hy, Sem.run_bind, Sem.run_pure, hr, Result.andThen_ok]
    exact hK _ _ (h _ (below_setCells _ _ (Nat.le_refl _) (below_new W _)) hb2.lt hb2)

/-! ### A region that draws its order and only reads, in a round (no defer statement in it) -/
section
variable {F : Fence} {n : Nat} {P : Program} {ops : Array Oper} {md : Region.Mode} {C : World → Prop}
def noDefer (ops : Array Oper) : Bool := ops.all fun o => match o.op with | .defer _ => false | _ => true
theorem noDefer_spec {ops : Array Oper} (h : noDefer ops = true) {i : Nat} {o : Oper} (hi : ops[i]? = some o) (c : Call) : o.op ≠ .defer c := fun e => by
  have := Array.all_eq_true_iff_forall_mem.1 h o (Array.mem_of_getElem? hi)
  rw [e] at this; cases this

theorem wpIn_of_quiet' {o : Oper} {a : Act} {K : Act → Prop} {K' : Act → World → Prop} {Q' : Exit → Act → World → Prop} {w : World} (hnd : ∀ c, o.op ≠ .defer c) (hw : C w) (h : ∀ a w', C w' → K a → K' a w')
    (ha : o.askedIn F P a C) (hh : o.quietIn F n P a C K) : o.wpIn F n P a w K' Q' := by
  obtain ⟨v, h1, h2⟩ := hh
  have h3 := h1 w hw
  unfold Oper.quietAtIn at h3
  unfold Oper.wpIn
  refine ⟨ha w hw, ?_⟩
  rw [Oper.semAt_eq _ _ _ hnd]
  generalize (execOp a.eval o).run P w = r at *
  cases r with
  | ok x w' =>
    cases x <;> simp only [Oper.quietUponIn] at h3 <;> simp only [Oper.uponIn]
    case value u =>
      obtain ⟨e1, e2⟩ := h3
      rw [e1, e2]
      exact h _ _ hw h2
    case skip =>
      obtain ⟨e1, e2⟩ := h3
      rw [e1, ← e2]
      exact h _ _ hw h2
    case enter f args =>
      obtain ⟨e1, hd, hc⟩ := h3
      rw [e1]
      exact ⟨hd, hc.mono fun e w'' ⟨he, hw''⟩ => by subst he; exact h _ _ hw'' h2⟩
  | halt x w' => simp only [Oper.quietUponIn] at h3

theorem wpOpIn_of_qOpIn' {i : Nat} {a : Act} {K : Act → Prop} {K' : Act → World → Prop} {Q' : Exit → Act → World → Prop} {w : World} (hnd : noDefer ops = true) (hC : C w) (h : ∀ a w', C w' → K a → K' a w')
    (hh : qOpIn F n P ops C i K a) : wpOpIn F n P ops Q' i K' a w := by
  unfold qOpIn at hh
  unfold wpOpIn
  split
  · rename_i ho; simp only [ho] at hh; exact h _ _ hC hh
  · rename_i o ho
    simp only [ho] at hh
    obtain ⟨ha, hh⟩ := hh
    split
    · rename_i hw; simp only [hw, if_true] at hh; exact wpIn_of_quiet' (noDefer_spec hnd ho) hC h ha hh
    · rename_i hw; simp only [hw] at hh; exact ⟨ha w hC, h _ _ hC hh⟩

theorem wpAnyIn_of_quiet' {Q : Act → Prop} {Q' : Exit → Act → World → Prop} (hnd : noDefer ops = true) (hQ : ∀ a w, C w → Q a → Q' .normal a w) : ∀ (fuel : Nat) (listed : Array Bool) (a : Act) (w : World), C w →
    wpAnyQIn F n P md ops C Q fuel listed a → wpAnyIn F n P md ops Q' fuel listed a w
  | 0, _, _, _, hw, h => ⟨h.1, hQ _ _ hw h.2⟩
  | fuel + 1, _, _, _, hw, h => ⟨fun h0 => hQ _ _ hw (h.1 h0), fun i hi => wpOpIn_of_qOpIn' hnd hw (fun a' w' hw' => wpAnyIn_of_quiet' hnd hQ fuel _ a' w' hw') (h.2 i hi)⟩

theorem wpIn_region_quiet' {id : Nat} {Q : Exit → Act → World → Prop} {a : Act} {w : World} (hnd : noDefer ops = true) (hm : P.follows .mixedOrders = true) (hB : Region.lexB .any ops = true) (hC : C { w with drawn := w.drawn + 1 })
    (h : wpQuietIn F n P ops C (fun a' => ∀ w', C w' → Q .normal a' w') ops.toList a) : (Code.region id ops true).wpIn F n P Q a w := by
  simp only [Region.lexB, Bool.and_eq_true] at hB
  refine wpIn_region_any hm (wpAnyIn_of_quiet' (Q := fun a' => ∀ w', C w' → Q .normal a' w') hnd (fun _ w' hw' h => h w' hw') _ _ _ _ hC ?_)
  have := wpAnyQIn_lex (F := F) (n := n) (C := C) (md := .any) hB.1 ops.toList 0 (Array.replicate ops.size false) a (by simp) (by simpa using hB.2) h
  simpa using this

theorem wpIn_region_quiet_round {id : Nat} {Q : Exit → Act → World → Prop} {a : Act} {w : World} {l : List Oper} (hnd : noDefer l.toArray = true) (hm : P.follows .mixedOrders = true) (hB : Region.lexB .any l.toArray = true)
    (h : wpQuietIn F n P l.toArray (fun w' => ∃ n, w' = w.drewN n) (fun a' => ∀ w', (∃ n, w' = w.drewN n) → Q .normal a' w') l a) : (Code.region id l.toArray true).wpIn F n P Q a w :=
  wpIn_region_quiet' (C := fun w' => ∃ n, w' = w.drewN n) hnd hm hB ⟨1, rfl⟩ (by simpa using h)
end
end Go.Proofs.Ytfjbodaakmapdaa.Kit
