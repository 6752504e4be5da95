/-
  The contracts of thread.Within, Count, Index, Item, Arches and Absent.
-/
import Derived.WalkKit
import Derived.Deep.MidRow
import Derived.Below
import Derived.Deep.Draws
import Derived.Laws.IdiomStrings
import Derived.WalkSmall
import Derived.RangeFuncNested
import Derived.RangeFuncBound
import Derived.RangeFuncCalls
import Derived.RangeFuncLeaves
import Derived.RangeFuncBox
import Derived.Shelf.Abstract
import Derived.Shelf.RegionOpen
import Derived.OwnWalkIn
import Derived.TacticsInMore
import Derived.LoopNIn
import Derived.LoopIn
import Derived.Sort.QuietIn
import Derived.WalkSpells
import Derived.WalkLawsBesides
import Derived.Outline
import Derived.Deep.DeepFit
import Derived.Lib.Hide
import Derived.BigQuiet
import Derived.Deep.QuietTactic
import Derived.StillTailTactics
import Derived.Test.YtfjbodaakmapdaaProg
import Derived.Test.YtfjbodaakmapdaaWMore
/-! ## Th -/
namespace Go.Proofs.Ytfjbodaakmapdaa.Th

/-- The bytes of a string as numbers. -/
def bl (s : ByteArray) : List Nat := s.data.toList.map (·.toNat)
theorem bl_len (s : ByteArray) : (bl s).length = s.size := by
  unfold bl; rw [List.length_map, Array.length_toList]; rfl
theorem bl_get (s : ByteArray) (i : Nat) (h : i < s.size) : (bl s)[i]'(by rw [bl_len]; exact h) = s[i].toNat := by
  simp only [bl, List.getElem_map]; rfl

/-- A word: at most 60 letters 'a' to 'd'. -/
def isW (s : ByteArray) : Bool := decide (s.size ≤ 60) && (bl s).all fun x => decide (97 ≤ x ∧ x ≤ 100)

theorem isW_iff (s : ByteArray) : isW s = true ↔ s.size ≤ 60 ∧ ∀ i (h : i < s.size), 97 ≤ s[i].toNat ∧ s[i].toNat ≤ 100 := by
  simp only [isW, Bool.and_eq_true, decide_eq_true_eq, List.all_eq_true]
  refine and_congr_right fun _ => ⟨fun h i hi => ?_, fun h x hx => ?_⟩
  · have := h ((bl s)[i]'(by rw [bl_len]; exact hi)) (List.getElem_mem _)
    rwa [bl_get] at this
  · obtain ⟨i, hi, rfl⟩ := List.getElem_of_mem hx
    rw [bl_len] at hi
    rw [bl_get s i hi]
    exact h i hi

/-- How many letters stand before the first letter number c (all, if there is none). -/
def fnd (c : Nat) : List Nat → Nat
  | [] => 0
  | x :: l => if x = 97 + c then 0 else fnd c l + 1

theorem fnd_le (c : Nat) : ∀ l, fnd c l ≤ l.length
  | [] => Nat.le_refl _
  | x :: l => by
    unfold fnd
    split
    · omega
    · have := fnd_le c l
      simp only [List.length_cons]; omega

/-- The position of the first letter number c from i on; the length, if there is none. -/
def nx (l : List Nat) (c i : Nat) : Nat := i + fnd c (l.drop i)

theorem nx_ge (l : List Nat) (c i : Nat) : i ≤ nx l c i := by unfold nx; omega
theorem nx_le (l : List Nat) (c i : Nat) (h : i ≤ l.length) : nx l c i ≤ l.length := by
  have := fnd_le c (l.drop i)
  rw [List.length_drop] at this
  unfold nx; omega
theorem nx_end (l : List Nat) (c : Nat) : nx l c l.length = l.length := by simp [nx, fnd]
theorem nx_step (l : List Nat) (c i : Nat) (h : i < l.length) : nx l c i = if l[i] = 97 + c then i else nx l c (i + 1) := by
  unfold nx
  rw [List.drop_eq_getElem_cons h, fnd]
  split
  · omega
  · omega
theorem nx_drop (l : List Nat) (c i : Nat) : nx l c i = i + fnd c (l.drop i) := rfl

/-! ### How many different subsequences there are -/
/-- The counts of a word and of all its ends. -/
def cntT : List Nat → List Nat
  | [] => [1]
  | x :: l => (1 + (if fnd 0 (x :: l) < l.length + 1 then (cntT l).getD (fnd 0 (x :: l)) 0 else 0) + (if fnd 1 (x :: l) < l.length + 1 then (cntT l).getD (fnd 1 (x :: l)) 0 else 0)
      + (if fnd 2 (x :: l) < l.length + 1 then (cntT l).getD (fnd 2 (x :: l)) 0 else 0) + (if fnd 3 (x :: l) < l.length + 1 then (cntT l).getD (fnd 3 (x :: l)) 0 else 0)) :: cntT l

/-- How many different subsequences a word has. -/
def cn (l : List Nat) : Nat := (cntT l).headD 0

theorem cntT_get : ∀ (l : List Nat) (i : Nat), i ≤ l.length → (cntT l).getD i 0 = cn (l.drop i)
  | l, 0, _ => by
    rw [List.drop_zero]; unfold cn; cases h : cntT l <;> rfl
  | [], i + 1, h => by simp at h
  | x :: l, i + 1, h => by
    have := cntT_get l i (by simpa using h)
    rw [cntT]; simpa using this

/-- What the letter number c adds to the count. -/
def tm (l : List Nat) (c : Nat) : Nat := if fnd c l < l.length then cn (l.drop (fnd c l + 1)) else 0
/-- The count as far as the first k letters go. -/
def pc (l : List Nat) : Nat → Nat
  | 0 => 1
  | k + 1 => pc l k + tm l k

theorem cn_eq : ∀ l, cn l = pc l 4
  | [] => rfl
  | x :: l => by
    have e : ∀ c, (if fnd c (x :: l) < l.length + 1 then (cntT l).getD (fnd c (x :: l)) 0 else 0) = tm (x :: l) c := fun c => by
      unfold tm
      rw [List.length_cons]
      split
      · rw [cntT_get l _ (by omega)]; rfl
      · rfl
    unfold cn
    rw [cntT, e, e, e, e]
    simp [pc]

theorem tm_cons (x : Nat) (l : List Nat) (c : Nat) : tm (x :: l) c = if x = 97 + c then cn l else tm l c := by
  unfold tm
  rw [fnd]
  split
  · simp
  · simp only [List.length_cons, List.drop_succ_cons]
    split <;> split <;> first | rfl | omega

theorem cn_step (x : Nat) (l : List Nat) : cn (x :: l) ≤ cn l + cn l := by
  rw [cn_eq (x :: l)]
  have h := cn_eq l
  simp only [pc, tm_cons] at h ⊢
  by_cases h0 : x = 97
  · subst h0; simp; omega
  · by_cases h1 : x = 98
    · subst h1; simp; omega
    · by_cases h2 : x = 99
      · subst h2; simp; omega
      · by_cases h3 : x = 100
        · subst h3; simp; omega
        · simp [h0, h1, h2, h3]; omega

theorem cn_le : ∀ l, cn l ≤ 2 ^ l.length
  | [] => Nat.le_refl _
  | x :: l => by
    have h := cn_le l
    have := cn_step x l
    rw [List.length_cons, Nat.pow_succ]; omega
theorem pc_mono (l : List Nat) (k : Nat) : pc l k ≤ pc l (k + 1) := by rw [pc]; omega
theorem pc_le (l : List Nat) : ∀ k, k ≤ 4 → pc l k ≤ cn l := by
  rw [cn_eq]
  intro k hk
  have h0 : pc l 0 ≤ pc l 1 := pc_mono l 0
  have h1 : pc l 1 ≤ pc l 2 := pc_mono l 1
  have h2 : pc l 2 ≤ pc l 3 := pc_mono l 2
  have h3 : pc l 3 ≤ pc l 4 := pc_mono l 3
  rcases (show k = 0 ∨ k = 1 ∨ k = 2 ∨ k = 3 ∨ k = 4 by omega) with rfl | rfl | rfl | rfl | rfl <;> omega

theorem cn_60 (l : List Nat) (h : l.length ≤ 60) : cn l ≤ 1152921504606846976 :=
  Nat.le_trans (cn_le l) (Nat.le_trans (Nat.pow_le_pow_right (by omega) h) (by decide))

/-! ### Positions -/
/-- The first positions of u's letters in w, from a position on. -/
def wn : List Nat → List Nat → Nat → Option (List Nat)
  | [], _, _ => some []
  | x :: u, w, i => if nx w (x - 97) i < w.length then (wn u w (nx w (x - 97) i + 1)).map (nx w (x - 97) i :: ·) else none

/-- Positions as Go's numbers. -/
def zs (l : List Nat) : List Int := l.map fun n : Nat => (n : Int)
theorem zs_snoc (l : List Nat) (n : Nat) : zs (l ++ [n]) = zs l ++ [(n : Int)] := by simp [zs]
theorem zs_len (l : List Nat) : (zs l).length = l.length := by simp [zs]

theorem drop_at {l : List Nat} {k : Nat} (h : k < l.length) : l.drop k = l[k] :: l.drop (k + 1) := List.drop_eq_getElem_cons h

/-! ### Ranks -/
/-- The rank of a subsequence u of w: the walk from position i on, with acc counted. -/
def ix : List Nat → List Nat → Nat → Nat → Option Nat
  | [], _, _, acc => some acc
  | x :: u, w, i, acc => if nx w (x - 97) i < w.length then ix u w (nx w (x - 97) i + 1) (acc + pc (w.drop i) (x - 97)) else none

/-! ### Items -/
/-- The first letter of the subsequence with the rank k (k from 1 on). -/
def sel (l : List Nat) (k : Nat) : Nat := if k < pc l 1 then 0 else if k < pc l 2 then 1 else if k < pc l 3 then 2 else 3
def itmF : Nat → List Nat → Nat → List Nat
  | 0, _, _ => []
  | f + 1, l, k => if k = 0 then [] else (97 + sel l k) :: itmF f (l.drop (fnd (sel l k) l + 1)) (k - pc l (sel l k))
/-- The subsequence with the rank k. -/
def itm (l : List Nat) (k : Nat) : List Nat := itmF l.length l k

/-- A list of numbers below 256 as a string. -/
def str (l : List Nat) : ByteArray := ⟨(l.map UInt8.ofNat).toArray⟩

example : cn [97, 98, 97, 98] = 12 := by decide
end Go.Proofs.Ytfjbodaakmapdaa.Th

/-! ## Kit -/
namespace Go.Proofs.Ytfjbodaakmapdaa.Kit
open Go.RowKit

/-- Block b holds the cells cs, of type t; none is frozen. -/
structure Blk (w : World) (b : Nat) (cs : Array Value) (t : TypeId) : Prop where
  out : w.heap[b]? = some (.cells cs t (0, 0))

variable {w w' : World} {b o t : Nat} {cs : Array Value}

theorem Blk.cell (h : Blk w b cs t) (o : Nat) : w.cell? ⟨b, o, none⟩ = cs[o]? := cell_of_row _ _ _ _ _ _ h.out
theorem Blk.frozen (h : Blk w b cs t) (o : Nat) : w.frozen? ⟨b, o, none⟩ = false := frozen_of_row _ _ _ _ _ h.out
theorem Blk.lt (h : Blk w b cs t) : b < w.heap.size := (Array.getElem?_eq_some_iff.1 h.out).1
theorem Blk.set (h : Blk w b cs t) (o : Nat) (v : Value) : Blk (w.setCell ⟨b, o, none⟩ v) b (cs.setIfInBounds o v) t := ⟨heap_setCell_same _ _ _ _ _ _ h.out⟩
theorem Blk.other (h : Blk w b cs t) (p : Addr) (hp : b ≠ p.block) (v : Value) : Blk (w.setCell p v) b cs t := ⟨(Below.heap_setCell w p v b hp).trans h.out⟩
theorem Blk.below {B : Nat} (h : Blk w b cs t) (hb : Below B w w') (hB : b < B) : Blk w' b cs t := ⟨(hb.block b hB).trans h.out⟩
theorem Blk.below' (h : Blk w b cs t) (hb : Below w.heap.size w w') : Blk w' b cs t := h.below hb h.lt
theorem Blk.alloc (h : Blk w b cs t) (x : Obj) : Blk (w.alloc x) b cs t := ⟨(Below.heap_alloc w x b h.lt).trans h.out⟩
theorem Blk.drew (h : Blk w b cs t) : Blk w.drew b cs t := ⟨h.out⟩
theorem Blk.drewN (h : Blk w b cs t) (n : Nat) : Blk (w.drewN n) b cs t := ⟨h.out⟩
theorem Blk.new (w : World) (cs : Array Value) (t : Nat) : Blk (w.alloc (.cells cs t)) w.heap.size cs t := ⟨heap_alloc_new w _⟩
theorem Blk.new2 (w : World) (x : Obj) (cs : Array Value) (t : Nat) : Blk ((w.alloc x).alloc (.cells cs t)) (w.heap.size + 1) cs t := by
  have h := Blk.new (w.alloc x) cs t
  rwa [World.size_alloc] at h
theorem Blk.new3 (w : World) (x y : Obj) (cs : Array Value) (t : Nat) : Blk (((w.alloc x).alloc y).alloc (.cells cs t)) (w.heap.size + 2) cs t := by
  have h := Blk.new ((w.alloc x).alloc y) cs t
  rwa [World.size_alloc, World.size_alloc] at h
theorem below_new (w : World) (x : Obj) : Below w.heap.size w (w.alloc x) := (Below.refl _ _).alloc (Nat.le_refl _) _
theorem below_new2 (w : World) (x y : Obj) : Below w.heap.size w ((w.alloc x).alloc y) := (below_new w x).alloc (by simp) _
theorem Blk.grown {row : Option Nat} (h : Blk w b cs t) (hg : w.grownBy w' row) (hr : some b ≠ row) : Blk w' b cs t := ⟨(hg.block b h.lt hr).trans h.out⟩

/-- cs with the cells vs put in from place o on -/
def put (cs : Array Value) : Nat → List Value → Array Value
  | _, [] => cs
  | o, v :: r => put (cs.setIfInBounds o v) (o + 1) r

theorem put_size : ∀ (vs : List Value) (cs : Array Value) (o : Nat), (put cs o vs).size = cs.size
  | [], _, _ => rfl
  | v :: r, cs, o => by rw [put, put_size r]; simp
theorem put_out : ∀ (vs : List Value) (cs : Array Value) (o i : Nat), (i < o ∨ o + vs.length ≤ i) → (put cs o vs)[i]? = cs[i]?
  | [], _, _, _, _ => rfl
  | v :: r, cs, o, i, h => by
    simp only [List.length_cons] at h
    rw [put, put_out r _ _ _ (by omega), Array.getElem?_setIfInBounds_ne (by omega)]
theorem put_in : ∀ (vs : List Value) (cs : Array Value) (o j : Nat), j < vs.length → o + vs.length ≤ cs.size → (put cs o vs)[o + j]? = vs[j]?
  | v :: r, cs, o, 0, _, hs => by
    simp only [List.length_cons] at hs
    rw [put, put_out r _ _ _ (by omega)]
    simp only [Nat.add_zero, List.getElem?_cons_zero]
    rw [Array.getElem?_setIfInBounds_self, if_pos (by omega)]
  | v :: r, cs, o, j + 1, h, hs => by
    simp only [List.length_cons] at h hs
    rw [put, show o + (j + 1) = o + 1 + j by omega, put_in r _ _ _ (by omega) (by simp; omega)]
    simp

theorem Blk.puts : ∀ (vs : List Value) {w : World} {cs : Array Value} (o : Nat), Blk w b cs t → Blk (w.setCells b o vs) b (put cs o vs) t
  | [], _, _, _, h => h
  | v :: r, w, cs, o, h => by rw [World.setCells, put]; exact Blk.puts r (o + 1) (h.set o v)

theorem below_setCells {B : Nat} : ∀ (vs : List Value) {w1 : World} (o : Nat), B ≤ b → Below B w w1 → Below B w (w1.setCells b o vs)
  | [], _, _, _, h => h
  | v :: r, w1, o, hB, h => by rw [World.setCells]; exact below_setCells r (o + 1) hB (h.setCell (p := ⟨b, o, none⟩) hB v)

theorem Blk.there (h : Blk w b cs t) {n : Nat} (ho : o + n ≤ cs.size) : w.there b o n := fun j hj => by
  refine ⟨?_, h.frozen _⟩
  rw [h.cell, Array.getElem?_eq_getElem (by omega)]; rfl

theorem Blk.range (h : Blk w b cs t) {vs : List Value} (hv : ∀ j v, vs[j]? = some v → cs[o + j]? = some v) : w.rangeAt b o vs := fun j v hj => by
  rw [h.cell]; exact hv j v hj
/-- A whole block overwritten. -/
theorem put_all (z cs : Array Value) (h : z.size = cs.size) : put z 0 cs.toList = cs := by
  apply Array.ext_getElem?
  intro i
  by_cases hi : i < cs.size
  · have := put_in cs.toList z 0 i (by simpa using hi) (by simp; omega)
    rw [Nat.zero_add] at this
    rw [this, Array.getElem?_toList]
  · have h1 : (put z 0 cs.toList).size ≤ i := by rw [put_size]; omega
    rw [Array.getElem?_eq_none h1, Array.getElem?_eq_none (by omega)]

/-- Each cell holds a value of one cell. -/
def OneC (cs : Array Value) : Prop := cs.all (·.oneCell') = true
theorem OneC.set {cs : Array Value} (h : OneC cs) (i : Nat) {v : Value} (hv : v.oneCell' = true) : OneC (cs.setIfInBounds i v) := by
  unfold OneC at *
  rw [Array.all_eq_true_iff_forall_mem] at *
  intro x hx
  rcases Array.mem_or_eq_of_mem_setIfInBounds hx with h1 | h1
  · exact h x h1
  · rw [h1]; exact hv
theorem OneC.put {cs : Array Value} : ∀ (vs : List Value) (o : Nat), OneC cs → (∀ v ∈ vs, v.oneCell' = true) → OneC (put cs o vs)
  | [], _, h, _ => h
  | v :: r, o, h, hv => OneC.put r (o + 1) (h.set o (hv v (by simp))) (fun x hx => hv x (by simp [hx]))

theorem cell_alloc_mark (w : World) (cs : Array Value) (t : TypeId) (fr : Nat × Nat) (j : Nat) : (w.alloc (.cells cs t fr)).cell? ⟨w.heap.size, j, none⟩ = cs[j]? := by
  have h : (w.alloc (.cells cs t fr)).heap[w.heap.size]? = some (.cells cs t fr) := heap_alloc_new w _
  rw [cell_of_row _ _ _ _ _ _ h]

theorem bytesRow_get (s : ByteArray) (cap k : Nat) (hk : k < s.size) : (bytesRow s cap)[k]? = some (.int .u8 (s[k].toNat : Int)) := by
  have hk' : k < s.data.size := hk
  unfold bytesRow
  rw [Array.getElem?_append_left (by simpa using hk'), Array.getElem?_map, Array.getElem?_eq_getElem hk']
  rfl

/-- '[]byte(s)': the world behind it by name. -/
theorem wpList_bytes {P : Program} {ops : Array Oper} {rest : List Oper} {o : Oper} {a : Act} {w : World} {Q : Exit → Act → World → Prop} (hgd : o.guard = none) (src dst e : TypeId) (x : Operand) (ho : o.op = .convert src dst x)
    (s : ByteArray) (hx : a.eval x = .string s) (hs : P.underlying src = some .string) (hd : P.underlying dst = some (.slice e)) (he : P.underlying e = some (.int .u8))
    (h : ∀ (w' : World) (cap : Nat), Below w.heap.size w w' → w.heap.size < w'.heap.size → (∀ k (hk : k < s.size), w'.cell? ⟨w.heap.size, k, none⟩ = some (.int .u8 (s[k].toNat : Int))) →
      wpList P ops Q rest (a.put o.dst (.slice (some ⟨w.heap.size, 0, none⟩) s.size cap)) w') : wpList P ops Q (o :: rest) a w := by
  refine wpList_plain hgd fun K hK => ?_
  unfold Oper.wp execOp
  simp only [ho, hx, Sem.run_bind, Sem.run_pure, Result.andThen_ok, run_bytes_of_string w src dst e s hs hd he]
  refine hK _ _ (h _ _ ?_ ?_ ?_)
  · exact ((Below.refl _ w).drew).alloc (Nat.le_refl _) _
  · rw [World.size_alloc]; exact Nat.lt_succ_self _
  · intro k hk
    exact (cell_alloc_mark w.drew _ e _ k).trans (bytesRow_get s _ k hk)

/-- A whole array stored into the block that was just made: the world behind it by name. -/
theorem wpList_store_new {P : Program} {ops : Array Oper} {rest : List Oper} {o : Oper} {a : Act} {w : World} {Q : Exit → Act → World → Prop} (hgd : o.guard = none) (ty : TypeId) (x y : Operand) (ho : o.op = .store ty x y)
    (W : World) (z : Array Value) (e : TypeId) (cells : Array Value) (hw : w = W.alloc (.cells z e)) (hx : a.eval x = .pointer (some ⟨W.heap.size, 0, none⟩)) (hy : a.eval y = .agg cells)
    (hz : z.size = cells.size) (hi : (P.info? ty).map (·.size) = some cells.size) (h1 : OneC cells)
    (h : ∀ w' : World, Below W.heap.size W w' → W.heap.size < w'.heap.size → Blk w' W.heap.size cells e → wpList P ops Q rest (a.put o.dst undef) w') : wpList P ops Q (o :: rest) a w := by
  subst hw
  have hb := Blk.new W z e
  refine wpList_store_mid hgd ty x y ho W.heap.size 0 cells hx hy (hb.there (by omega)) hi h1 ?_
  have hb2 := hb.puts cells.toList 0
  rw [put_all _ _ hz] at hb2
  exact h _ (below_setCells _ _ (Nat.le_refl _) (below_new W _)) hb2.lt hb2
end Go.Proofs.Ytfjbodaakmapdaa.Kit

/-! ## Rfk -/
namespace Go.Proofs.Ytfjbodaakmapdaa.Kit
open Go.RowKit

/-! ### What has changed: the blocks in S alone, and what is new -/
/-- Of what lay in w, only the blocks in S may have changed. -/
structure But (S : Nat → Prop) (w w' : World) : Prop where
  os : w'.os = w.os
  tape : w'.tape = w.tape
  output : w'.output = w.output
  size : w.heap.size ≤ w'.heap.size
  block : ∀ k, k < w.heap.size → ¬ S k → w'.heap[k]? = w.heap[k]?

variable {S : Nat → Prop} {w w' w'' : World}
theorem But.refl (S : Nat → Prop) (w : World) : But S w w := ⟨rfl, rfl, rfl, Nat.le_refl _, fun _ _ _ => rfl⟩
theorem But.trans (h : But S w w') (k : But S w' w'') : But S w w'' :=
  ⟨k.os.trans h.os, k.tape.trans h.tape, k.output.trans h.output, Nat.le_trans h.size k.size, fun i hi hs => (k.block i (Nat.lt_of_lt_of_le hi h.size) hs).trans (h.block i hi hs)⟩
theorem But.drewN (h : But S w w') (n : Nat) : But S w (w'.drewN n) := ⟨h.os, h.tape, h.output, h.size, h.block⟩
theorem But.drew (h : But S w w') : But S w w'.drew := ⟨h.os, h.tape, h.output, h.size, h.block⟩
theorem But.alloc (h : But S w w') (o : Obj) : But S w (w'.alloc o) :=
  h.trans ⟨rfl, rfl, rfl, by simp, fun k hk _ => Below.heap_alloc _ _ _ hk⟩
theorem But.set (h : But S w w') {p : Addr} (hp : S p.block ∨ w.heap.size ≤ p.block) (v : Value) : But S w (w'.setCell p v) :=
  ⟨h.os, h.tape, h.output, Nat.le_trans h.size (by simp [World.setCell]), fun k hk hs => (Below.heap_setCell w' p v k (fun e => hp.elim (fun hp => hs (e ▸ hp)) (fun hp => by omega))).trans (h.block k hk hs)⟩
theorem But.grown {row : Option Nat} (h : But S w w') (hg : w'.grownBy w'' row) (hr : ∀ k, row = some k → S k ∨ w.heap.size ≤ k) : But S w w'' :=
  ⟨hg.os.trans h.os, hg.tape.trans h.tape, hg.output.trans h.output, Nat.le_trans h.size hg.size, fun k hk hs =>
    (hg.block k (Nat.lt_of_lt_of_le hk h.size) (fun e => (hr k e.symm).elim (fun h1 => hs h1) (fun h1 => by omega))).trans (h.block k hk hs)⟩
theorem But.below {B : Nat} (h : But S w w') (hB : B ≤ w.heap.size) (hS : ∀ k, S k → B ≤ k) : Below B w w' :=
  ⟨h.os, h.tape, h.output, h.size, fun k hk => h.block k (by omega) (fun hs => by have := hS k hs; omega)⟩
theorem But.of_below (h : Below w.heap.size w w') : But S w w' := ⟨h.os, h.tape, h.output, h.size, fun k hk _ => h.block k hk⟩
theorem But.mono {S' : Nat → Prop} (h : But S w w') (hs : ∀ k, S k → S' k) : But S' w w' := ⟨h.os, h.tape, h.output, h.size, fun k hk hn => h.block k hk (fun hk' => hn (hs k hk'))⟩
theorem Blk.but {b t : Nat} {cs : Array Value} (h : Blk w b cs t) (hb : But S w w') (hs : ¬ S b) : Blk w' b cs t := ⟨(hb.block b h.lt hs).trans h.out⟩

/-! ### A turn of a block that is no cells -/
abbrev Turn (B : Nat) (w : World) (row : Option Nat) : Prop := ∀ r, row = some r → B ≤ r ∧ ∃ o : Obj, w.heap[r]? = some o ∧ o.isCells = false
theorem Blk.turn {b t B : Nat} {cs : Array Value} {row : Option Nat} (h : Blk w b cs t) (hg : w.grownBy w' row) (hr : Turn B w row) : Blk w' b cs t :=
  h.grown hg (fun e => by obtain ⟨_, o, ho, hc⟩ := hr b e.symm; rw [h.out] at ho; cases ho; cases hc)
theorem But.turn {row : Option Nat} (h : But S w w') (hg : w'.grownBy w'' row) (hr : Turn w.heap.size w' row) : But S w w'' := h.grown hg (fun k e => .inr (hr k e).1)

theorem keepsO_drewN (W : World) (n : Nat) : KeepsOthers W (W.drewN n) := ⟨Nat.le_refl _, fun _ _ h _ => h⟩

/-! ### Marks among the deferred calls -/
/-- The deferred calls are marks of loops that have ended, the newest first; their blocks lie from B on, below top. -/
def Marks (B : Nat) (w : World) : List Deferred → Nat → Prop
  | [], _ => True
  | d :: ds, top => ∃ D, d = { target := .collected D, args := #[] } ∧ B ≤ D ∧ D < top ∧ w.heap[D]? = some (.deferred (some [])) ∧ Marks B w ds D

theorem Marks.imp {B : Nat} : ∀ {ds : List Deferred} {top : Nat}, (∀ D, B ≤ D → D < top → w.heap[D]? = some (.deferred (some [])) → w'.heap[D]? = some (.deferred (some []))) → Marks B w ds top → Marks B w' ds top
  | [], _, _, _ => trivial
  | _ :: _, _, h, ⟨D, e, h1, h2, h3, h4⟩ => ⟨D, e, h1, h2, h D h1 h2 h3, Marks.imp (fun D' a b c => h D' a (by omega) c) h4⟩
theorem Marks.others {B : Nat} {ds : List Deferred} {top : Nat} (h : Marks B w ds top) (hk : KeepsOthers w w') : Marks B w' ds top := h.imp fun D _ _ h3 => hk.same D _ h3 rfl
theorem Marks.up {B : Nat} {ds : List Deferred} {top top' : Nat} (h : Marks B w ds top) (ht : top ≤ top') : Marks B w ds top' := by
  cases ds with
  | nil => trivial
  | cons d ds => obtain ⟨D, e, h1, h2, h3, h4⟩ := h; exact ⟨D, e, h1, by omega, h3, h4⟩
theorem Marks.but {B : Nat} {ds : List Deferred} {top : Nat} (h : Marks B w ds top) (hb : But S w w') (ht : top ≤ w.heap.size) (hS : ∀ D, w.heap[D]? = some (.deferred (some [])) → ¬ S D) : Marks B w' ds top :=
  h.imp fun D _ h2 h3 => (hb.block D (by omega) (hS D h3)).trans h3
theorem Marks.set {B : Nat} {ds : List Deferred} {top : Nat} (h : Marks B w ds top) (p : Addr) (v : Value) : Marks B (w.setCell p v) ds top := h.others (KeepsOthers.setCell w p v)
theorem Marks.alloc {B : Nat} {ds : List Deferred} {top : Nat} (h : Marks B w ds top) (o : Obj) : Marks B (w.alloc o) ds top := h.others (KeepsOthers.alloc w o)
theorem Marks.drewN {B : Nat} {ds : List Deferred} {top : Nat} (h : Marks B w ds top) (n : Nat) : Marks B (w.drewN n) ds top := h.others (keepsO_drewN w n)
theorem Marks.below {B : Nat} {ds : List Deferred} {top : Nat} (h : Marks B w ds top) (hb : Below w.heap.size w w') : Marks B w' ds top :=
  h.imp fun D _ _ h3 => (hb.block D (Array.getElem?_eq_some_iff.1 h3).1).trans h3
theorem Marks.put {B D : Nat} {ds : List Deferred} {o : Obj} (h : Marks B w ds D) : Marks B (w.putObj D o) ds D :=
  h.imp fun D' _ h2 h3 => (World.putObj_heap_other (by omega)).trans h3

theorem below_put {B D : Nat} (hD : B ≤ D) (w : World) (o : Obj) : Below B w (w.putObj D o) :=
  (Below.refl B w).trans ⟨rfl, rfl, rfl, by simp [World.putObj], fun k hk => World.putObj_heap_other (by omega)⟩

/-- A function's return behind marks. -/
theorem leaves_marks {F : Fence} {n : Nat} {P : Program} {fn : Func} {tmps : Array Value} {R : Ending → World → Prop} {v : Value} {B : Nat} : ∀ (ds : List Deferred) (w : World) (top : Nat),
    Marks B w ds top → (∀ w', (results fn tmps).run P w' = .ok v w') → (∀ w', Below B w w' → R (.returned v) w') → LeavesInM F n P fn tmps R ds .returning w
  | [], w, _, _, hr, hR => ⟨v, hr w, hR w (Below.refl _ _)⟩
  | _ :: ds, w, _, ⟨D, e, h1, _, h3, h4⟩, hr, hR => by
    subst e
    exact ⟨by simp, .inl ⟨D, _, rfl, run_takeDeferred h3, leaves_marks ds _ D h4.put hr fun w' hb => hR w' ((below_put h1 w _).trans hb)⟩⟩

/-! ### Calls inside the wide fence -/
theorem round_call {n l : Nat} {P : Program} {f : FuncId} {args : Array Value} {w : World} {R R' : Ending → World → Prop} (h : Calls P f args w R') (hr : ∀ e w', R' e w' → R e w') :
    (Fence.wide.inRound l).fn f ∧ CallsIn (Fence.wide.inRound l) n P f args w R := ⟨trivial, CallsIn.inRound l (callsIn_wide.2 (h.mono hr))⟩

/-! ### A region that draws its order and only reads, in a round (no defer statement in it) -/
section
variable {F : Fence} {n : Nat} {P : Program} {ops : Array Oper} {md : Region.Mode} {C : World → Prop}
def noDefer (ops : Array Oper) : Bool := ops.all fun o => match o.op with | .defer _ => false | _ => true
theorem noDefer_spec {ops : Array Oper} (h : noDefer ops = true) {i : Nat} {o : Oper} (hi : ops[i]? = some o) (c : Call) : o.op ≠ .defer c := fun e => by
  have := Array.all_eq_true_iff_forall_mem.1 h o (Array.mem_of_getElem? hi)
  rw [e] at this; cases this

theorem wpIn_of_quiet' {o : Oper} {a : Act} {K : Act → Prop} {K' : Act → World → Prop} {Q' : Exit → Act → World → Prop} {w : World} (hnd : ∀ c, o.op ≠ .defer c) (hw : C w) (h : ∀ a w', C w' → K a → K' a w')
    (ha : o.askedIn F P a C) (hh : o.quietIn F n P a C K) : o.wpIn F n P a w K' Q' := by
  obtain ⟨v, h1, h2⟩ := hh
  have h3 := h1 w hw
  unfold Oper.quietAtIn at h3
  unfold Oper.wpIn
  refine ⟨ha w hw, ?_⟩
  rw [Oper.semAt_eq _ _ _ hnd]
  generalize (execOp a.eval o).run P w = r at *
  cases r with
  | ok x w' =>
    cases x <;> simp only [Oper.quietUponIn] at h3 <;> simp only [Oper.uponIn]
    case value u =>
      obtain ⟨e1, e2⟩ := h3
      rw [e1, e2]
      exact h _ _ hw h2
    case skip =>
      obtain ⟨e1, e2⟩ := h3
      rw [e1, ← e2]
      exact h _ _ hw h2
    case enter f args =>
      obtain ⟨e1, hd, hc⟩ := h3
      rw [e1]
      exact ⟨hd, hc.mono fun e w'' ⟨he, hw''⟩ => by subst he; exact h _ _ hw'' h2⟩
  | halt x w' => simp only [Oper.quietUponIn] at h3

theorem wpOpIn_of_qOpIn' {i : Nat} {a : Act} {K : Act → Prop} {K' : Act → World → Prop} {Q' : Exit → Act → World → Prop} {w : World} (hnd : noDefer ops = true) (hC : C w) (h : ∀ a w', C w' → K a → K' a w')
    (hh : qOpIn F n P ops C i K a) : wpOpIn F n P ops Q' i K' a w := by
  unfold qOpIn at hh
  unfold wpOpIn
  split
  · rename_i ho; simp only [ho] at hh; exact h _ _ hC hh
  · rename_i o ho
    simp only [ho] at hh
    obtain ⟨ha, hh⟩ := hh
    split
    · rename_i hw; simp only [hw, if_true] at hh; exact wpIn_of_quiet' (noDefer_spec hnd ho) hC h ha hh
    · rename_i hw; simp only [hw] at hh; exact ⟨ha w hC, h _ _ hC hh⟩

theorem wpAnyIn_of_quiet' {Q : Act → Prop} {Q' : Exit → Act → World → Prop} (hnd : noDefer ops = true) (hQ : ∀ a w, C w → Q a → Q' .normal a w) : ∀ (fuel : Nat) (listed : Array Bool) (a : Act) (w : World), C w →
    wpAnyQIn F n P md ops C Q fuel listed a → wpAnyIn F n P md ops Q' fuel listed a w
  | 0, _, _, _, hw, h => ⟨h.1, hQ _ _ hw h.2⟩
  | fuel + 1, _, _, _, hw, h => ⟨fun h0 => hQ _ _ hw (h.1 h0), fun i hi => wpOpIn_of_qOpIn' hnd hw (fun a' w' hw' => wpAnyIn_of_quiet' hnd hQ fuel _ a' w' hw') (h.2 i hi)⟩

theorem wpIn_region_quiet' {id : Nat} {Q : Exit → Act → World → Prop} {a : Act} {w : World} (hnd : noDefer ops = true) (hm : P.follows .mixedOrders = true) (hB : Region.lexB .any ops = true) (hC : C { w with drawn := w.drawn + 1 })
    (h : wpQuietIn F n P ops C (fun a' => ∀ w', C w' → Q .normal a' w') ops.toList a) : (Code.region id ops true).wpIn F n P Q a w := by
  simp only [Region.lexB, Bool.and_eq_true] at hB
  refine wpIn_region_any hm (wpAnyIn_of_quiet' (Q := fun a' => ∀ w', C w' → Q .normal a' w') hnd (fun _ w' hw' h => h w' hw') _ _ _ _ hC ?_)
  have := wpAnyQIn_lex (F := F) (n := n) (C := C) (md := .any) hB.1 ops.toList 0 (Array.replicate ops.size false) a (by simp) (by simpa using hB.2) h
  simpa using this

theorem wpIn_region_quiet_round {id : Nat} {Q : Exit → Act → World → Prop} {a : Act} {w : World} {l : List Oper} (hnd : noDefer l.toArray = true) (hm : P.follows .mixedOrders = true) (hB : Region.lexB .any l.toArray = true)
    (h : wpQuietIn F n P l.toArray (fun w' => ∃ n, w' = w.drewN n) (fun a' => ∀ w', (∃ n, w' = w.drewN n) → Q .normal a' w') l a) : (Code.region id l.toArray true).wpIn F n P Q a w :=
  wpIn_region_quiet' (C := fun w' => ∃ n, w' = w.drewN n) hnd hm hB ⟨1, rfl⟩ (by simpa using h)
end
end Go.Proofs.Ytfjbodaakmapdaa.Kit

/-! ## Word -/
namespace Go.Proofs.Ytfjbodaakmapdaa
open Go.RowKit Th Kit

/-- The block of a word from row m on. -/
structure WB (wr : World) (b : Nat) (s : ByteArray) (m : Nat) (cs : Array Value) : Prop where
  blk : Blk wr b cs 75
  size : cs.size = 245
  str : cs[0]? = some (.string s)
  row : ∀ r c, m ≤ r → r ≤ s.size → c < 4 → cs[1 + r * 4 + c]? = some (.int .i64 (nx (bl s) c r))

def NewPost (s : ByteArray) (w : World) (e : Ending) (w' : World) : Prop :=
  Below w.heap.size w w' ∧ ((isW s = true ∧ e = .returned (.tuple #[.pointer (some ⟨w.heap.size, 0, none⟩), .bool true]) ∧ ∃ cs, WB w' w.heap.size s 0 cs) ∨
   (isW s = false ∧ e = .returned (.tuple #[.pointer none, .bool false])))

theorem within_any (n lo hi : Int) (r : Bool) (w : World) (hr : (decide (lo ≤ n) && decide (n ≤ hi)) = r) : Calls Try.prog 43 #[.int .i64 n, .int .i64 lo, .int .i64 hi] w fun e w' => e = .returned (.bool r) ∧ w = w' := by
  subst hr
  by_cases h : lo ≤ n
  · have h1 : decide (lo ≤ n) = true := decide_eq_true h
    go_enter Try.func43, Try.ntmps43
    go_wp2
    go_ret
    exact ⟨by simp [h], rfl⟩
  · have h1 : decide (lo ≤ n) = false := decide_eq_false h
    go_enter Try.func43, Try.ntmps43
    go_wp2
    go_ret
    exact ⟨by simp, rfl⟩

theorem row_step {s : ByteArray} {j : Nat} {cs : Array Value} (hj : j < s.size) (h60 : s.size ≤ 60) (h1 : 97 ≤ s[j].toNat) (h2 : s[j].toNat ≤ 100) (hsz : cs.size = 245)
    (hrow : ∀ r c, j + 1 ≤ r → r ≤ s.size → c < 4 → cs[1 + r * 4 + c]? = some (.int .i64 (nx (bl s) c r))) :
    ∀ r c, j ≤ r → r ≤ s.size → c < 4 → ((Kit.put cs (1 + j * 4) [.int .i64 (nx (bl s) 0 (j+1)), .int .i64 (nx (bl s) 1 (j+1)), .int .i64 (nx (bl s) 2 (j+1)), .int .i64 (nx (bl s) 3 (j+1))]).setIfInBounds (1 + j * 4 + (s[j].toNat - 97)) (.int .i64 j))[1 + r * 4 + c]? = some (.int .i64 (nx (bl s) c r)) := by
  intro r c hr hr2 hc
  have hlen := bl_len s
  have hg := bl_get s j hj
  by_cases hrj : r = j
  · subst hrj
    have hst := nx_step (bl s) c r (by omega)
    rw [hg] at hst
    by_cases hx : s[r].toNat = 97 + c
    · rw [if_pos hx] at hst
      rw [show 1 + r * 4 + (s[r].toNat - 97) = 1 + r * 4 + c by omega, Array.getElem?_setIfInBounds_self, if_pos (by rw [put_size]; omega), hst]
    · rw [if_neg hx] at hst
      rw [Array.getElem?_setIfInBounds_ne (by omega), put_in _ _ _ _ (by simp; omega) (by simp; omega), hst]
      rcases (show c = 0 ∨ c = 1 ∨ c = 2 ∨ c = 3 by omega) with rfl | rfl | rfl | rfl <;> rfl
  · rw [Array.getElem?_setIfInBounds_ne (by omega), put_out _ _ _ _ (by simp; omega)]
    exact hrow r c (by omega) hr2 hc

theorem zero75_size : Try.zeroCells75.size = 245 := by kernel_rfl

set_option maxRecDepth 100000 in
set_option maxHeartbeats 2000000 in
theorem newWord_short (s : ByteArray) (hs : s.size ≤ 60) (w : World) :
   Calls Try.prog 42 #[.string s] w (NewPost s w) := by
  have hzs := zero75_size
  have hbl := bl_len s
  have Hzs := Lib.hid hzs
  have Hbl := Lib.hid hbl
  clear hzs hbl
  go_enter Try.func42, Try.ntmps42
  go_wp2
  go_loopw [14] (fun v wr => ∃ k : Nat, v = .int .i64 k ∧ k ≤ 4 ∧ Below w.heap.size w wr ∧ ∃ cs, WB wr w.heap.size s (s.size + 1) cs ∧ ∀ c, c < k → cs[1 + s.size * 4 + c]? = some (.int .i64 s.size)) (fun v _ => 4 - (intOf v).toNat)
  case atStart =>
    refine ⟨0, rfl, by omega, (Below.refl _ _).alloc (Nat.le_refl _) _, _, ⟨Blk.new _ _ _, ?_, ?_, fun r c h1 h2 => by omega⟩, fun c hc => by omega⟩
    · rw [Array.size_setIfInBounds]; exact Hzs.out
    · rw [Array.getElem?_setIfInBounds_self, if_pos (by rw [Hzs.out]; omega)]
  case round =>
    obtain ⟨k, rfl, hk, hB, cs, hcs, hrow⟩ := hrel
    have hsz := hcs.size
    by_cases hlt : k < 4
    · obtain ⟨x, hx⟩ : ∃ x, wr.cell? ⟨w.heap.size, 1 + s.size * 4 + k, none⟩ = some x := by
        rw [hcs.blk.cell]
        exact ⟨cs[1 + s.size * 4 + k]'(by omega), Array.getElem?_eq_getElem (by omega)⟩
      have hf : wr.frozen? ⟨w.heap.size, 1 + s.size * 4 + k, none⟩ = false := hcs.blk.frozen _
      have Hrow := Lib.hid hrow
      have Hsz := Lib.hid hsz
      clear hrow hsz
      go_wp2
      go_roundw
      case rel =>
        have hrow := Hrow.out
        have hsz := Hsz.out
        refine ⟨k + 1, by go_num, by omega, hB.setCell (p := ⟨w.heap.size, _, none⟩) (Nat.le_refl _) _, _, ⟨hcs.blk.set _ _, by rw [Array.size_setIfInBounds]; exact hsz, ?_, fun r c h1 h2 => by omega⟩, fun c hc => ?_⟩
        · rw [Array.getElem?_setIfInBounds_ne (by omega)]; exact hcs.str
        · by_cases h : c = k
          · subst h; rw [Array.getElem?_setIfInBounds_self, if_pos (by omega)]
          · rw [Array.getElem?_setIfInBounds_ne (by omega)]; exact hrow c (by omega)
      case measure => simp [intOf]; omega
    · obtain rfl : k = 4 := by omega
      have Hrow := Lib.hid hrow
      have Hsz := Lib.hid hsz
      clear hrow hsz
      rw [show ((4 : Nat) : Int) = 4 from rfl]
      go_wp2
      go_loopw [6] (fun v wr => ∃ (q : Int) (m : Nat), v = .int .i64 q ∧ q = m - 1 ∧ m ≤ s.size ∧ Below w.heap.size w wr ∧ (∃ cs, WB wr w.heap.size s m cs) ∧ ∀ i (h : i < s.size), m ≤ i → 97 ≤ s[i].toNat ∧ s[i].toNat ≤ 100) (fun v _ => (intOf v + 1).toNat)
      case atStart =>
        refine ⟨_, s.size, rfl, rfl, Nat.le_refl _, hB, ⟨cs, hcs.blk, hcs.size, hcs.str, fun r c h1 h2 hc => ?_⟩, fun i h h' => by omega⟩
        obtain rfl : r = s.size := by omega
        rw [Hrow.out c hc, ← Hbl.out, nx_end]
      case round =>
        clear hB hcs Hrow Hsz
        obtain ⟨q, m, rfl, hq, hm, hB, ⟨cs, hcs⟩, hlet⟩ := hrel
        cases m with
        | zero =>
          obtain rfl : q = -1 := by omega
          clear hq
          have Hlet := Lib.hid hlet
          clear hlet
          go_wp2
          go_ret2
          refine ⟨hB, .inl ⟨?_, rfl, cs, hcs⟩⟩
          rw [isW_iff]
          exact ⟨hs, fun i h => Hlet.out i h (Nat.zero_le _)⟩
        | succ j =>
          obtain rfl : q = (j : Int) := by omega
          clear hq
          have hlet' := Lib.hid hlet
          clear hlet
          have hby : s[j].toNat < 256 := s[j].toNat_lt
          by_cases hv : 97 ≤ s[j].toNat ∧ s[j].toNat ≤ 100
          · obtain ⟨hv1, hv2⟩ := hv
            go_wp2_with (go_at_call 43; refine (within_any _ _ _ true _ (by simp; omega)).mono ?_; rintro e w' ⟨rfl, rfl⟩)
            have hsz := hcs.size
            have hrow := hcs.row (j + 1)
            have c0 : wr.cell? ⟨w.heap.size, 1 + (j + 1) * 4, none⟩ = some (.int .i64 (nx (bl s) 0 (j+1))) := by
              rw [hcs.blk.cell]; exact hrow 0 (by omega) (by omega) (by omega)
            have c1 : wr.cell? ⟨w.heap.size, 1 + (j + 1) * 4 + 1, none⟩ = some (.int .i64 (nx (bl s) 1 (j+1))) := by
              rw [hcs.blk.cell]; exact hrow 1 (by omega) (by omega) (by omega)
            have c2 : wr.cell? ⟨w.heap.size, 1 + (j + 1) * 4 + 2, none⟩ = some (.int .i64 (nx (bl s) 2 (j+1))) := by
              rw [hcs.blk.cell]; exact hrow 2 (by omega) (by omega) (by omega)
            have c3 : wr.cell? ⟨w.heap.size, 1 + (j + 1) * 4 + 3, none⟩ = some (.int .i64 (nx (bl s) 3 (j+1))) := by
              rw [hcs.blk.cell]; exact hrow 3 (by omega) (by omega) (by omega)
            clear hrow
            have j1 : (0 : Int) ≤ (j : Int) + 1 := by omega
            have j2 : (j : Int) + 1 < 61 := by omega
            have j3 : (j : Int) < 61 := by omega
            have e1 : IntKind.i64.wrap ((j : Int) + 1) = (j : Int) + 1 := IntWalk.i64_in _ (by omega)
            have e2 : ((j : Int) + 1).toNat = j + 1 := by omega
            go_still_tail 12, (by kernel_rfl)
            change wpList _ _ _ _ _ wr.drew
            clear e1 e2 j1 j2
            refine wpList_store_mid rfl 72 _ _ rfl w.heap.size (1 + j * 4) #[.int .i64 (nx (bl s) 0 (j+1)), .int .i64 (nx (bl s) 1 (j+1)), .int .i64 (nx (bl s) 2 (j+1)), .int .i64 (nx (bl s) 3 (j+1))] rfl rfl (hcs.blk.drew.there (by simp; omega)) (by kernel_rfl) (by simp [Value.oneCell']) ?_
            have hb2 := hcs.blk.drew.puts [.int .i64 (nx (bl s) 0 (j+1)), .int .i64 (nx (bl s) 1 (j+1)), .int .i64 (nx (bl s) 2 (j+1)), .int .i64 (nx (bl s) 3 (j+1))] (1 + j * 4)
            have hB2 := below_setCells [.int .i64 (nx (bl s) 0 (j+1)), .int .i64 (nx (bl s) 1 (j+1)), .int .i64 (nx (bl s) 2 (j+1)), .int .i64 (nx (bl s) 3 (j+1))] (1 + j * 4) (Nat.le_refl w.heap.size) hB.drew
            obtain ⟨cs2, hcs2⟩ : ∃ cs2, cs2 = Kit.put cs (1 + j * 4) [.int .i64 (nx (bl s) 0 (j+1)), .int .i64 (nx (bl s) 1 (j+1)), .int .i64 (nx (bl s) 2 (j+1)), .int .i64 (nx (bl s) 3 (j+1))] := ⟨_, rfl⟩
            rw [← hcs2] at hb2
            have hsz2 : cs2.size = 245 := by rw [hcs2, put_size]; exact hsz
            have hst2 : cs2[0]? = some (.string s) := by rw [hcs2, put_out _ _ _ _ (by omega)]; exact hcs.str
            have hrow2 := row_step (by omega) hs hv1 hv2 hsz hcs.row
            rw [← hcs2] at hrow2
            have Hrow2 := Lib.hid hrow2
            clear hcs2 hrow2
            generalize wr.drew.setCells w.heap.size (1 + j * 4) _ = w2 at hb2 hB2 ⊢
            clear c0 c1 c2 c3
            obtain ⟨x, hx⟩ : ∃ x, w2.cell? ⟨w.heap.size, 1 + j * 4 + (s[j].toNat - 97), none⟩ = some x := by
              rw [hb2.cell]
              exact ⟨_, Array.getElem?_eq_getElem (by omega)⟩
            have hf : w2.frozen? ⟨w.heap.size, 1 + j * 4 + (s[j].toNat - 97), none⟩ = false := hb2.frozen _
            have Hsz2 := Lib.hid hsz2
            have Hst2 := Lib.hid hst2
            clear hsz2 hst2 hsz
            go_wp2
            go_roundw
            case rel =>
              refine ⟨_, j, rfl, by omega, by omega, hB2.setCell (p := ⟨w.heap.size, _, none⟩) (Nat.le_refl _) _, ⟨_, hb2.set _ _, by rw [Array.size_setIfInBounds]; exact Hsz2.out, ?_, Hrow2.out⟩, fun i h hji => ?_⟩
              · rw [Array.getElem?_setIfInBounds_ne (by omega)]; exact Hst2.out
              · by_cases hij : i = j
                · subst hij; exact ⟨hv1, hv2⟩
                · exact hlet'.out i h (by omega)
            case measure => simp [intOf]
          · go_wp2_with (go_at_call 43; refine (within_any _ _ _ false _ (by simp; omega)).mono ?_; rintro e w' ⟨rfl, rfl⟩)
            go_ret2
            refine ⟨hB, .inr ⟨?_, rfl⟩⟩
            rw [Bool.eq_false_iff, ne_eq, isW_iff]
            rintro ⟨_, h⟩
            exact hv (h j (by omega))

theorem newWord_long (s : ByteArray) (hs : ¬ s.size ≤ 60) (w : World) :
   Calls Try.prog 42 #[.string s] w (NewPost s w) := by
  go_enter Try.func42, Try.ntmps42
  go_wp2
  go_ret2
  refine ⟨Below.refl _ _, .inr ⟨?_, rfl⟩⟩
  rw [Bool.eq_false_iff, ne_eq, isW_iff]
  exact fun h => hs h.1

theorem newWord_any (s : ByteArray) (w : World) : Calls Try.prog 42 #[.string s] w (NewPost s w) := by
  by_cases h : s.size ≤ 60
  · exact newWord_short s h w
  · exact newWord_long s h w

/-- What a word's block says of memory. -/
structure IsWord (w : World) (b : Nat) (s : ByteArray) : Prop where
  out : ∃ cs, WB w b s 0 cs

theorem IsWord.below {w w' : World} {b : Nat} {s : ByteArray} (h : IsWord w b s) (hb : Below w.heap.size w w') : IsWord w' b s := by
  obtain ⟨cs, hcs⟩ := h.out
  exact ⟨cs, hcs.blk.below' hb, hcs.size, hcs.str, hcs.row⟩
theorem IsWord.lt {w : World} {b : Nat} {s : ByteArray} (h : IsWord w b s) : b < w.heap.size := by
  obtain ⟨cs, hcs⟩ := h.out
  exact hcs.blk.lt
theorem IsWord.text {w : World} {b : Nat} {s : ByteArray} (h : IsWord w b s) : w.cell? ⟨b, 0, none⟩ = some (.string s) := by
  obtain ⟨cs, hcs⟩ := h.out
  rw [hcs.blk.cell]; exact hcs.str
theorem IsWord.next {w : World} {b : Nat} {s : ByteArray} (h : IsWord w b s) (r c : Nat) (hr : r ≤ s.size) (hc : c < 4) : w.cell? ⟨b, 1 + r * 4 + c, none⟩ = some (.int .i64 (nx (bl s) c r)) := by
  obtain ⟨cs, hcs⟩ := h.out
  rw [hcs.blk.cell]; exact hcs.row r c (Nat.zero_le _) hr hc
theorem IsWord.grown {w w' : World} {b : Nat} {s : ByteArray} {row : Option Nat} (h : IsWord w b s) (hg : w.grownBy w' row) (hr : some b ≠ row) : IsWord w' b s := by
  obtain ⟨cs, hcs⟩ := h.out
  exact ⟨cs, hcs.blk.grown hg hr, hcs.size, hcs.str, hcs.row⟩
theorem IsWord.other {w : World} {b : Nat} {s : ByteArray} (h : IsWord w b s) (p : Addr) (hp : b ≠ p.block) (v : Value) : IsWord (w.setCell p v) b s := by
  obtain ⟨cs, hcs⟩ := h.out
  exact ⟨cs, hcs.blk.other p hp v, hcs.size, hcs.str, hcs.row⟩

theorem newWord_yes (s : ByteArray) (w : World) (h : isW s = true) : Calls Try.prog 42 #[.string s] w fun e w' =>
    e = .returned (.tuple #[.pointer (some ⟨w.heap.size, 0, none⟩), .bool true]) ∧ IsWord w' w.heap.size s ∧ Below w.heap.size w w' :=
  (newWord_any s w).mono fun e w' ⟨hb, ho⟩ => by
    rcases ho with ⟨_, he, hw⟩ | ⟨hn, _⟩
    · exact ⟨he, ⟨hw⟩, hb⟩
    · rw [h] at hn; cases hn
theorem newWord_no (s : ByteArray) (w : World) (h : isW s = false) : Calls Try.prog 42 #[.string s] w fun e w' =>
    e = .returned (.tuple #[.pointer none, .bool false]) ∧ Below w.heap.size w w' :=
  (newWord_any s w).mono fun e w' ⟨hb, ho⟩ => by
    rcases ho with ⟨hn, _⟩ | ⟨_, he⟩
    · rw [h] at hn; cases hn
    · exact ⟨he, hb⟩
end Go.Proofs.Ytfjbodaakmapdaa

/-! ## Count -/
namespace Go.Proofs.Ytfjbodaakmapdaa
open Go.RowKit Th Kit

set_option maxHeartbeats 400000 in
theorem after_any (b : Nat) (s : ByteArray) (i c : Int) (i' c' : Nat) (r : Bool) (w : World) (hw : IsWord w b s) (h60 : s.size ≤ 60) (hi : i = i') (hc : c = c') (hi' : i' ≤ s.size) (hc' : c' < 4)
    (hr : decide (nx (bl s) c' i' < s.size) = r) :
    Calls Try.prog 47 #[.pointer (some ⟨b, 0, none⟩), .int .i64 i, .int .i64 c] w fun e w' => e = .returned (.tuple #[.int .i64 (nx (bl s) c' i' + 1), .bool r]) ∧ ∃ n, w' = w.drewN n := by
  subst hi hc hr
  have hle := nx_le (bl s) c' i' (by rw [bl_len]; exact hi')
  rw [bl_len] at hle
  have h1 := hw.next i' c' hi' hc'
  have h2 := hw.text
  obtain ⟨n, hn⟩ : ∃ n, n = nx (bl s) c' i' := ⟨_, rfl⟩
  rw [← hn] at h1 hle ⊢
  clear hn hw
  have e1 : IntKind.i64.wrap ((n : Int) + 1) = (n : Int) + 1 := IntWalk.i64_in _ (by omega)
  go_enter Try.func47, Try.ntmps47
  go_wp2
  go_quiet (fail)
  go_wp2
  go_ret2
  exact ⟨rfl, _, rfl⟩

/-- The array of counts. -/
structure CB (s : ByteArray) (m : Nat) (cs : Array Value) : Prop where
  size : cs.size = 61
  one : OneC cs
  row : ∀ r, m ≤ r → r ≤ s.size → cs[r]? = some (.int .i64 (cn ((bl s).drop r)))

def CountsPost (s : ByteArray) (w : World) (e : Ending) (w' : World) : Prop := Below w.heap.size w w' ∧ ∃ cs, CB s 0 cs ∧ e = .returned (.agg cs)

set_option maxRecDepth 100000 in
set_option maxHeartbeats 2000000 in
theorem counts_any (b : Nat) (s : ByteArray) (w : World) (hw : IsWord w b s) (h60 : s.size ≤ 60) :
    Calls Try.prog 48 #[.pointer (some ⟨b, 0, none⟩)] w (CountsPost s w) := by
  have hb := hw.lt
  have htext := hw.text
  have Hbl := Lib.hid (bl_len s)
  go_enter Try.func48, Try.ntmps48
  go_wp2
  go_loopw [4] (fun v wr => ∃ (q : Int) (m : Nat), v = .int .i64 q ∧ q = m - 1 ∧ m ≤ s.size + 1 ∧ Below w.heap.size w wr ∧ (∃ z, Blk wr w.heap.size z 82 ∧ z.size = 61) ∧ ∃ cs, Blk wr (w.heap.size + 1) cs 82 ∧ CB s m cs) (fun v _ => (intOf v + 1).toNat)
  case atStart =>
    exact ⟨_, s.size + 1, rfl, by omega, Nat.le_refl _, below_new2 _ _ _, ⟨_, (Blk.new w _ _).alloc _, rfl⟩, _, Blk.new2 _ _ _ _, rfl, by unfold OneC; simp [Value.oneCell'], fun r h1 h2 => by omega⟩
  case round =>
    obtain ⟨q, m, rfl, hq, hm, hB, ⟨z, hz, hz61⟩, cs, hcs, hrow⟩ := hrel
    cases m with
    | zero =>
      obtain rfl : q = -1 := by omega
      clear hq
      have hsz := Lib.hid hrow.size
      go_wp2_with (first | (refine wpList_load_row rfl 82 (.tmp 3) rfl (w.heap.size + 1) rfl 82 cs (0, 0) _ hcs.out Try.underlying82 rfl (by rw [hsz.out]; kernel_rfl) ?_) | (refine wpList_store_mid rfl 82 (.tmp 2) (.tmp 39) rfl w.heap.size 0 cs rfl rfl (hz.there (by rw [hsz.out]; omega)) (by rw [hsz.out]; kernel_rfl) hrow.one ?_))
      have hb2 := hz.puts cs.toList 0
      rw [put_all _ _ (by rw [hsz.out]; exact hz61)] at hb2
      refine bodyPost_ret (results_cell_row rfl _ _ w.heap.size 82 cs (0, 0) _ rfl hb2.out Try.underlying82 rfl (by rw [hsz.out]; kernel_rfl)) rfl ?_
      exact ⟨below_setCells _ _ (Nat.le_refl _) hB, cs, hrow, rfl⟩
    | succ j =>
      obtain rfl : q = (j : Int) := by omega
      clear hq
      have hsz := hrow.size
      obtain ⟨x, hx⟩ : ∃ x, wr.cell? ⟨w.heap.size + 1, j, none⟩ = some x := by
        rw [hcs.cell]
        exact ⟨_, Array.getElem?_eq_getElem (by omega)⟩
      have hf : wr.frozen? ⟨w.heap.size + 1, j, none⟩ = false := hcs.frozen _
      have j3 : (j : Int) < 61 := by omega
      have Hsz := Lib.hid hsz
      have Hz61 := Lib.hid hz61
      clear hz61 hsz
      go_wp2
      go_loopw [19] (fun v wr => ∃ k : Nat, v = .int .i64 k ∧ k ≤ 4 ∧ Below w.heap.size w wr ∧ (∃ z, Blk wr w.heap.size z 82 ∧ z.size = 61) ∧ ∃ cs, Blk wr (w.heap.size + 1) cs 82 ∧ CB s (j + 1) cs ∧ cs[j]? = some (.int .i64 (pc ((bl s).drop j) k))) (fun v _ => 4 - (intOf v).toNat)
      case atStart =>
        refine ⟨0, rfl, by omega, hB.setCell (p := ⟨w.heap.size + 1, _, none⟩) (by simp) _, ⟨z, hz.other _ (by simp) _, Hz61.out⟩, _, hcs.set _ _, ⟨by rw [Array.size_setIfInBounds]; exact Hsz.out, hrow.one.set _ rfl, fun r h1 h2 => ?_⟩, ?_⟩
        · rw [Array.getElem?_setIfInBounds_ne (by omega)]; exact hrow.row r h1 h2
        · rw [Array.getElem?_setIfInBounds_self, if_pos (by rw [Hsz.out]; omega)]; rfl
      case round =>
        clear hx hf hB hrow hcs hz Hsz Hz61
        obtain ⟨k, rfl, hk, hB, hz, cs, hcs, hrow, hj⟩ := hrel
        by_cases hlt : k < 4
        · have hb2 := hw.below hB
          have hdl : ((bl s).drop j).length = s.size - j := by rw [List.length_drop, Hbl.out]
          have hnx := nx_drop (bl s) k j
          have Hdl := Lib.hid hdl
          have Hnx := Lib.hid hnx
          clear hdl hnx
          by_cases hn : nx (bl s) k j < s.size
          · go_wp2_with (go_at_call 47; refine (after_any b s _ _ j k true _ hb2 h60 rfl rfl (by omega) hlt (by simpa using hn)).mono ?_; rintro e w' ⟨rfl, nq, rfl⟩)
            have hB2 := below_drewN hB nq
            have hcs2 := hcs.drewN nq
            have hz2 : ∃ z, Blk (wr.drewN nq) w.heap.size z 82 ∧ z.size = 61 := by obtain ⟨z, h1, h2⟩ := hz; exact ⟨z, h1.drewN nq, h2⟩
            generalize wr.drewN nq = w2 at hB2 hcs2 hz2 ⊢
            have hge := nx_ge (bl s) k j
            have htm : tm ((bl s).drop j) k = cn ((bl s).drop (nx (bl s) k j + 1)) := by
              unfold tm
              rw [Hdl.out, if_pos (by have := Hnx.out; omega), List.drop_drop, Hnx.out]; congr 2
            have hpc : pc ((bl s).drop j) (k + 1) = pc ((bl s).drop j) k + cn ((bl s).drop (nx (bl s) k j + 1)) := by rw [pc, htm]
            have hle : pc ((bl s).drop j) k + cn ((bl s).drop (nx (bl s) k j + 1)) ≤ 1152921504606846976 := by
              rw [← hpc]; exact Nat.le_trans (pc_le _ _ (by omega)) (cn_60 _ (by rw [Hdl.out]; omega))
            have Hpc := Lib.hid hpc
            clear hpc htm
            have c1 : w2.cell? ⟨w.heap.size + 1, j, none⟩ = some (.int .i64 (pc ((bl s).drop j) k)) := by rw [hcs2.cell]; exact hj
            have c2 : w2.cell? ⟨w.heap.size + 1, nx (bl s) k j + 1, none⟩ = some (.int .i64 (cn ((bl s).drop (nx (bl s) k j + 1)))) := by
              rw [hcs2.cell]; exact hrow.row _ (by omega) (by omega)
            have hf : w2.frozen? ⟨w.heap.size + 1, j, none⟩ = false := hcs2.frozen _
            generalize nx (bl s) k j = p at *
            generalize cn ((bl s).drop (p + 1)) = q at *
            have Hj := Lib.hid hj
            clear hj
            generalize pc ((bl s).drop j) k = r at *
            have e1 : IntKind.i64.wrap ((r : Int) + (q : Int)) = (r : Int) + (q : Int) := IntWalk.i64_in _ (by omega)
            have e2 : ((p : Int) + 1).toNat = p + 1 := by omega
            have j1 : (0 : Int) ≤ (p : Int) + 1 := by omega
            have j2 : (p : Int) + 1 < 61 := by omega
            go_still_tail 8, (by kernel_rfl)
            change wpList _ _ _ _ _ w2.drew
            go_wp2
            go_roundw
            case rel =>
              refine ⟨k + 1, by go_num, by omega, (hB2.drew).setCell (p := ⟨w.heap.size + 1, _, none⟩) (by simp) _, ?_, _, hcs2.drew.set _ _, ⟨by rw [Array.size_setIfInBounds]; exact hrow.size, hrow.one.set _ rfl, fun r h1 h2 => ?_⟩, ?_⟩
              · obtain ⟨z, h1, h2⟩ := hz2; exact ⟨z, h1.drew.other _ (by simp) _, h2⟩
              · rw [Array.getElem?_setIfInBounds_ne (by omega)]; exact hrow.row r h1 h2
              · rw [Array.getElem?_setIfInBounds_self, if_pos (by rw [hrow.size]; omega), Hpc.out]; rfl
            case measure => simp [intOf]; omega
          · go_wp2_with (go_at_call 47; refine (after_any b s _ _ j k false _ hb2 h60 rfl rfl (by omega) hlt (by simpa using hn)).mono ?_; rintro e w' ⟨rfl, nq, rfl⟩)
            go_roundw
            case rel =>
              refine ⟨k + 1, by go_num, by omega, below_drewN hB nq, ?_, _, hcs.drewN nq, hrow, ?_⟩
              · obtain ⟨z, h1, h2⟩ := hz; exact ⟨z, h1.drewN nq, h2⟩
              · rw [pc, tm, if_neg (by have := Hdl.out; have := Hnx.out; omega)]; exact hj
            case measure => simp [intOf]; omega
        · obtain rfl : k = 4 := by omega
          rw [show ((4 : Nat) : Int) = 4 from rfl]
          have Hj := Lib.hid hj
          clear hj
          go_wp2
          go_roundw
          case rel =>
            refine ⟨_, j, rfl, rfl, by omega, hB, hz, cs, hcs, hrow.size, hrow.one, fun r h1 h2 => ?_⟩
            by_cases hr : r = j
            · subst hr; rw [Hj.out, cn_eq]
            · exact hrow.row r (by omega) h2
          case measure => simp [intOf]
end Go.Proofs.Ytfjbodaakmapdaa

/-! ## Within -/
namespace Go.Proofs.Ytfjbodaakmapdaa
open Go.RowKit Th Kit Go.Proofs.YtfjbodaakmapdaaW.PrintWords Go.Proofs.YtfjbodaakmapdaaW.PrintLast Go.Proofs.YtfjbodaakmapdaaW.PrintMore

theorem info3 : (Try.prog.info? 3).map (fun i => (i.zero, i.size, i.bytes)) = some (some (.int .i64 0), 1, 8) := by kernel_rfl

namespace Given
def thread_Within.f (u w : ByteArray) : Option (List Int × Int) :=
  some (if isW u = true then (if isW w = true then (match wn (bl u) (bl w) 0 with | some l => (zs l, 0) | none => ([], 6)) else ([], 2)) else ([], 2))
end Given

def WithinPost (r1 : List Int) (r2 : Int) (w : World) (e : Ending) (w' : World) : Prop :=
  ∃ v0_ : Value, e = .returned (.tuple #[v0_, .int .i64 r2]) ∧ Kd.R (Kd.int .i64) 3 w' w.heap.size (fun _ => True) v0_ r1 ∧ Below w.heap.size w w'

set_option maxRecDepth 100000 in
set_option maxHeartbeats 2000000 in
theorem within_walk (u t : ByteArray) (w : World) (hu : isW u = true) (ht : isW t = true) (r1 : List Int) (r2 : Int)
    (hr : (match wn (bl u) (bl t) 0 with | some l => (zs l, (0 : Int)) | none => ([], 6)) = (r1, r2)) :
    Calls Try.prog 18 #[.string u, .string t] w (WithinPost r1 r2 w) := by
  have Hr := Lib.hid hr
  obtain ⟨hu60, hul⟩ := (isW_iff u).1 hu
  obtain ⟨ht60, htl⟩ := (isW_iff t).1 ht
  have Hul := Lib.hid hul
  have Htl := Lib.hid htl
  have Hu := Lib.hid hu
  have Ht := Lib.hid ht
  clear hr hu ht hul htl
  go_enter Try.func18, Try.ntmps18
  go_wp2_with fail
  refine (newWord_yes u _ Hu.out).mono ?_
  rintro e w1 ⟨rfl, hw1, hB1⟩
  go_wp2_with fail
  refine (newWord_yes t _ Ht.out).mono ?_
  rintro e w2 ⟨rfl, hw2, hB2⟩
  have hw1' := hw1.below hB2
  have htext := hw1'.text
  have hB := hB1.trans (hB2.mono hB1.size)
  clear hw1 hB1 hB2
  go_wp2_with (refine wpList_bytes rfl 9 66 5 (.tmp 35) rfl u rfl Try.underlying9 Try.underlying66 Try.underlying5 ?_; intro w3 cap hB3 hlt3 hbytes)
  have hw2' := hw2.below hB3
  have hB' := hB.trans (hB3.mono hB.size)
  clear hw2 htext hw1' hB hB3
  go_loopw [10, 11, 38] (fun vo va vk wr => ∃ (k i : Nat) (ps : List Nat), vk = .int .i64 k ∧ k ≤ u.size ∧ va = .int .i64 i ∧ i ≤ t.size ∧ ps.length = k ∧
      Aside0 (wn (bl u) (bl t) 0 = (wn ((bl u).drop k) (bl t) i).map (ps ++ ·)) ∧ Aside0 (Kd.R (Kd.int .i64) 3 wr w3.heap.size (fun _ => True) vo (zs ps)) ∧ Aside0 (Below w3.heap.size w3 wr)) (fun _ _ vk _ => u.size - (intOf vk).toNat)
  case atStart =>
    refine ⟨0, 0, [], rfl, Nat.zero_le _, rfl, Nat.zero_le _, rfl, ⟨?_⟩, ⟨Kd.R_nil _ _ _ _ _⟩, ⟨Below.refl _ _⟩⟩
    rw [List.drop_zero]; cases wn (bl u) (bl t) 0 <;> rfl
  case round =>
    obtain ⟨k, i, ps, rfl, hk, rfl, hi, hps, HW, HO, HB⟩ := hrel
    have Hps := Lib.hid hps
    clear hps
    have Hb := Lib.hid hbytes
    clear hbytes
    by_cases hlt : k < u.size
    · obtain ⟨h97, h100⟩ := Hul.out k hlt
      have hd : (bl u).drop k = u[k].toNat :: (bl u).drop (k + 1) := by
        rw [drop_at (by rw [bl_len]; exact hlt), bl_get u k hlt]
      have Hd := Lib.hid hd
      clear hd
      have hc : wr.cell? ⟨w2.heap.size, k, none⟩ = some (.int .u8 (u[k].toNat : Int)) := (HB.out.cell (p := ⟨w2.heap.size, k, none⟩) hlt3).trans (Hb.out k hlt)
      have hwr := hw2'.below HB.out
      by_cases hn : nx (bl t) (u[k].toNat - 97) i < t.size
      · go_wp2_with (first | (go_at_call 47; refine (after_any _ t _ _ i (u[k].toNat - 97) true _ hwr ht60 rfl (by omega) hi (by omega) (by simpa using hn)).mono ?_; rintro e w' ⟨rfl, nq, rfl⟩; have HO2 := Aside0.mk (Kd.R_drewN HO.out nq); have HB2 := Aside0.mk (below_drewN HB.out nq)) | ((with_reducible refine gate_builtin (b := .append) (xs := #[.tmp 53, .tmp 56]) rfl ?_); at_builtin; refine Kd.R_append (Kd.int .i64) (w0 := w3) w3.heap.size rfl (.tmp 53) (.tmp 56) 24 3 (.int .i64 0) 8 rfl Try.underlying24 info3 rfl (by decide) (by omega) u10 (zs ps) (nx (bl t) (u[k].toNat - 97) i) [.int .i64 (nx (bl t) (u[k].toNat - 97) i)] (fun _ => True) (fun _ => False) rfl rfl rfl (fun _ hk => hk.elim) (fun _ _ => trivial) HO2.out HB2.out HB2.out.size (by rw [zs_len, Hps.out]; omega) ?_; intro v4 w4 ho hb hg hat))
        go_roundw
        case rel =>
          have hlen := bl_len t
          refine ⟨k + 1, nx (bl t) (u[k].toNat - 97) i + 1, ps ++ [nx (bl t) (u[k].toNat - 97) i], by go_num, by omega, by go_num, by omega, by simp [Hps.out], ⟨?_⟩, ⟨?_⟩, ⟨hb⟩⟩
          · rw [HW.out, Hd.out, wn, if_pos (by omega)]
            cases wn (List.drop (k + 1) (bl u)) (bl t) (nx (bl t) (u[k].toNat - 97) i + 1) <;> simp
          · rw [zs_snoc]; exact ho
        case measure => simp [intOf]; omega
      · go_wp2_with (go_at_call 47; refine (after_any _ t _ _ i (u[k].toNat - 97) false _ hwr ht60 rfl (by omega) hi (by omega) (by simpa using hn)).mono ?_; rintro e w' ⟨rfl, nq, rfl⟩)
        go_ret2
        have h := Hr.out
        rw [HW.out, Hd.out, wn, if_neg (by rw [bl_len]; exact hn)] at h
        obtain ⟨rfl, rfl⟩ : ([] : List Int) = r1 ∧ (6 : Int) = r2 := by simpa using h
        exact ⟨_, rfl, Kd.R_nil _ _ _ _ _, below_drewN (hB'.trans (HB.out.mono hB'.size)) nq⟩
    · obtain rfl : k = u.size := by omega
      go_wp2
      go_ret2
      have h := Hr.out
      rw [HW.out, List.drop_eq_nil_of_le (by rw [bl_len]; omega), wn] at h
      obtain ⟨rfl, rfl⟩ : zs ps = r1 ∧ (0 : Int) = r2 := by simpa using h
      exact ⟨_, rfl, Kd.R_lower HO.out hB'.size, hB'.trans (HB.out.mono hB'.size)⟩

theorem within_no1 (u t : ByteArray) (w : World) (hu : isW u = false) : Calls Try.prog 18 #[.string u, .string t] w (WithinPost [] 2 w) := by
  have Hu := Lib.hid hu
  clear hu
  go_enter Try.func18, Try.ntmps18
  go_wp2_with fail
  refine (newWord_no u _ Hu.out).mono ?_
  rintro e w1 ⟨rfl, hB1⟩
  go_wp2_with fail
  refine (newWord_any t _).mono ?_
  rintro e w2 ⟨hB2, ⟨_, rfl, _⟩ | ⟨_, rfl⟩⟩
  · go_wp2
    go_ret2
    exact ⟨_, rfl, Kd.R_nil _ _ _ _ _, hB1.trans (hB2.mono hB1.size)⟩
  · go_wp2
    go_ret2
    exact ⟨_, rfl, Kd.R_nil _ _ _ _ _, hB1.trans (hB2.mono hB1.size)⟩

theorem within_no2 (u t : ByteArray) (w : World) (hu : isW u = true) (ht : isW t = false) : Calls Try.prog 18 #[.string u, .string t] w (WithinPost [] 2 w) := by
  have Hu := Lib.hid hu
  have Ht := Lib.hid ht
  clear hu ht
  go_enter Try.func18, Try.ntmps18
  go_wp2_with fail
  refine (newWord_yes u _ Hu.out).mono ?_
  rintro e w1 ⟨rfl, _, hB1⟩
  go_wp2_with fail
  refine (newWord_no t _ Ht.out).mono ?_
  rintro e w2 ⟨rfl, hB2⟩
  go_wp2
  go_ret2
  exact ⟨_, rfl, Kd.R_nil _ _ _ _ _, hB1.trans (hB2.mono hB1.size)⟩

theorem Given.thread_Within.calls (a0 a1 : ByteArray) (r1 : List Int) (r2 : Int) (w : World) (h : Given.thread_Within.f a0 a1 = some (r1, r2)) :
    Calls Try.prog 18 #[.string a0, .string a1] w fun e w' => ∃ v0_ : Value, e = .returned (.tuple #[v0_, .int .i64 r2]) ∧ Kd.R (Kd.int .i64) 3 w' w.heap.size (fun _ => True) v0_ r1 ∧ Below w.heap.size w w' := by
  show Calls Try.prog 18 #[.string a0, .string a1] w (WithinPost r1 r2 w)
  unfold Given.thread_Within.f at h
  cases hu : isW a0 with
  | false =>
    rw [hu] at h
    obtain ⟨rfl, rfl⟩ : ([] : List Int) = r1 ∧ (2 : Int) = r2 := by simpa using h
    exact within_no1 a0 a1 w hu
  | true =>
    cases ht : isW a1 with
    | false =>
      rw [hu, ht] at h
      obtain ⟨rfl, rfl⟩ : ([] : List Int) = r1 ∧ (2 : Int) = r2 := by simpa using h
      exact within_no2 a0 a1 w hu ht
    | true =>
      rw [hu, ht, if_pos rfl, if_pos rfl] at h
      exact within_walk a0 a1 w hu ht r1 r2 (Option.some.inj h)
end Go.Proofs.Ytfjbodaakmapdaa

/-! ## Index -/
namespace Go.Proofs.Ytfjbodaakmapdaa
open Go.RowKit Th Kit Go.Proofs.YtfjbodaakmapdaaW.PrintWords Go.Proofs.YtfjbodaakmapdaaW.PrintLast Go.Proofs.YtfjbodaakmapdaaW.PrintMore

namespace Given
def thread_Count.f (a0 : ByteArray) : Option (Int × Int) := some (if isW a0 = true then ((cn (bl a0) : Nat), 0) else (0, 2))
def thread_Index.f (w u : ByteArray) : Option (Int × Int) :=
  some (if isW w = true then (if isW u = true then (match ix (bl u) (bl w) 0 0 with | some n => ((n : Int), 0) | none => (0, 6)) else (0, 2)) else (0, 2))
end Given

theorem run_index_82 (w : World) (cs : Array Value) (i : Nat) (v : Value) (hi : i < 61) (hv : cs[i]? = some v) : (Instr.index 82 (.agg cs) (.int .i64 i)).run Try.prog w = .ok v w := by
  simp [Instr.index, run_underlying Try.underlying82, asIntOf, go_sem, hi, hv]

theorem Given.thread_Count.calls (a0 : ByteArray) (r1 : Int) (r2 : Int) (w : World) (h : Given.thread_Count.f a0 = some (r1, r2)) :
    Calls Try.prog 25 #[.string a0] w fun e w' => e = .returned (.tuple #[.int .i64 r1, .int .i64 r2]) ∧ Below w.heap.size w w' := by
  unfold Given.thread_Count.f at h
  cases hu : isW a0 with
  | false =>
    rw [hu] at h
    obtain ⟨rfl, rfl⟩ : (0 : Int) = r1 ∧ (2 : Int) = r2 := by simpa using h
    have Hu := Lib.hid hu
    clear hu h
    go_enter Try.func25, Try.ntmps25
    go_wp2_with fail
    refine (newWord_no a0 _ Hu.out).mono ?_
    rintro e w1 ⟨rfl, hB1⟩
    go_wp2
    go_ret2
    exact ⟨rfl, hB1⟩
  | true =>
    rw [hu] at h
    obtain ⟨rfl, rfl⟩ : ((cn (bl a0) : Nat) : Int) = r1 ∧ (0 : Int) = r2 := by simpa using h
    have h60 := ((isW_iff a0).1 hu).1
    have Hu := Lib.hid hu
    clear hu h
    go_enter Try.func25, Try.ntmps25
    go_wp2_with fail
    refine (newWord_yes a0 _ Hu.out).mono ?_
    rintro e w1 ⟨rfl, hw1, hB1⟩
    go_wp2_with fail
    refine (counts_any _ a0 _ hw1 h60).mono ?_
    rintro e w2 ⟨hB2, cs, hcs, rfl⟩
    have hg : (Instr.index 82 (.agg cs) (.int .i64 0)).run Try.prog w2 = .ok (.int .i64 (cn (bl a0))) w2 := run_index_82 w2 cs 0 _ (by omega) (hcs.row 0 (by omega) (by omega))
    clear hcs
    go_wp2
    go_ret2
    exact ⟨rfl, hB1.trans (hB2.mono hB1.size)⟩

theorem int_eq {a b : Int} (h : a = b) : Value.int .i64 a = .int .i64 b := by rw [h]

def IndexPost (r1 r2 : Int) (w : World) (e : Ending) (w' : World) : Prop := e = .returned (.tuple #[.int .i64 r1, .int .i64 r2]) ∧ Below w.heap.size w w'

end Go.Proofs.Ytfjbodaakmapdaa

/-! ## Alpha -/
namespace Go.Proofs.Ytfjbodaakmapdaa
open Go.RowKit Go.Shelf Th Kit Go.Proofs.YtfjbodaakmapdaaW.PrintWords
attribute [local go_sem] Oper.semAt_some

theorem IsWord.but {S : Nat → Prop} {w w' : World} {b : Nat} {s : ByteArray} (h : IsWord w b s) (hb : But S w w') (hs : ¬ S b) : IsWord w' b s := by
  obtain ⟨cs, hcs⟩ := h.out
  exact ⟨cs, hcs.blk.but hb hs, hcs.size, hcs.str, hcs.row⟩

/-- The letter number c as a string. -/
abbrev letter (c : Nat) : ByteArray := Utf8.encode (97 + (c : Int))
abbrev aencs (k : Nat) (x : Fin k) : Array Value := #[.int .i64 (x.val : Int), .string (letter x.val)]

set_option maxRecDepth 100000 in
set_option maxHeartbeats 2000000 in
theorem alpha1_in (F : Fence) (n : Nat) (h64 : F.fn 64) (hro : F.round = none) (hn : 1 ≤ n) (l Bk k : Nat) (hk4 : k ≤ 4) (J Jx : List (Fin k) → World → Prop)
    (hY : ∀ pre x W, J pre W → pre.length < k → YieldAt F (n - 1) Try.prog l #[.int .i64 (x.val : Int), .string (Utf8.encode (97 + (x.val : Int)))] W fun e W' =>
      (e = .returned (.bool true) ∧ J (pre ++ [x]) W' ∧ True) ∨ (e = .returned (.bool false) ∧ Jx (pre ++ [x]) W'))
    (W : World) (hB : W.cell? ⟨Bk, 0, none⟩ = some (.int .i64 k)) (h0 : J [] W) :
    CallsIn F n Try.prog 64 #[.func (.yield l) #[] #[], .pointer (some ⟨Bk, 0, none⟩)] W fun e W' => (∃ v, e = .returned v) ∧
      ((∃ ys, ys = List.finRange k ∧ J ys W') ∨ (∃ pre, pre <+: List.finRange k ∧ Jx pre W')) := by
  refine callsIn_of_wp Try.func64 rfl h64 ?_ hro
  simp only [Try.ntmps64, List.size_toArray, List.length_cons, List.length_nil, Nat.reduceAdd, Nat.reduceSub, Array.replicate_succ, Array.replicate_zero, List.push_toArray, List.append_toArray, List.nil_append, List.cons_append]
  gi_wp2
  gi_loopw [5] (fun i wr => ∃ c : Nat, c ≤ k ∧ i = .int .i64 c ∧ Aside0 (J ((List.finRange k).take c) wr)) (fun i _ => k - (intOf i).toNat)
  case atStart => exact ⟨0, Nat.zero_le _, rfl, ⟨by simpa using h0⟩⟩
  case round =>
    obtain ⟨c, hc, rfl, hJs⟩ := hrel
    by_cases hlt : c < k
    · have hts : (List.finRange k).take (c + 1) = (List.finRange k).take c ++ [⟨c, hlt⟩] := by
        rw [List.take_succ_eq_append_getElem (by simpa using hlt)]; simp
      have Hts := Lib.hid hts
      clear hts
      obtain ⟨fn, tmps, assign, body, hy, hR⟩ := hY _ ⟨c, hlt⟩ wr hJs.out (by simp; omega)
      dsimp only at hy
      gi_wp2
      refine hR.mono ?_
      rintro e W3 (⟨rfl, hJ3, hk3⟩ | ⟨rfl, hJx3⟩)
      · gi_wp2
        go_roundw
        case rel => exact ⟨c + 1, by omega, by simp, ⟨by rw [Hts.out]; exact hJ3⟩⟩
        case measure => simp [intOf]; omega
      · gi_wp2
        refine bodyPost_ret (results_none rfl _ _ _) rfl ?_
        exact ⟨⟨_, rfl⟩, .inr ⟨_, List.take_prefix (c + 1) _, by rw [Hts.out]; exact hJx3⟩⟩
    · obtain rfl : c = k := by omega
      have hj := hJs.out
      rw [List.take_of_length_le (by simp)] at hj
      gi_wp2
      go_end0
      exact ⟨⟨_, rfl⟩, .inl ⟨_, rfl, hj⟩⟩

theorem alpha_stops (F : Fence) (n : Nat) (h64 : F.fn 64) (hro : F.round = none) (hn : 1 ≤ n) (Bk k : Nat) (hk4 : k ≤ 4) (w : World) (hBk : Bk < w.heap.size) (hB : w.cell? ⟨Bk, 0, none⟩ = some (.int .i64 k)) :
    SeqStopsK F n Try.prog 64 #[.pointer (some ⟨Bk, 0, none⟩)] (aencs k) (fun _ _ => True) (fun ys => ys = List.finRange k) (fun pre => pre <+: List.finRange k) k w := fun l J Jx W hW _ _ hY h0 =>
  alpha1_in F n h64 hro hn l Bk k hk4 J Jx hY W ((hW.cell (p := ⟨Bk, 0, none⟩) hBk).trans hB) h0

/-- alphabet(k) hands back the iterator over its box. -/
theorem alphabet_in (F : Fence) (n : Nat) (h46 : F.fn 46) (hro : F.round = none) (k : Int) (w : World) :
    CallsIn F n Try.prog 46 #[.int .i64 k] w fun e w' => e = .returned (.func (.func 64) #[] #[.pointer (some ⟨w.heap.size, 0, none⟩)]) ∧ w' = w.alloc (.cells #[.int .i64 k] 3) := by
  refine callsIn_of_wp Try.func46 rfl h46 ?_ hro
  simp only [Try.ntmps46, List.size_toArray, List.length_cons, List.length_nil, Nat.reduceAdd, Nat.reduceSub, Array.replicate_succ, Array.replicate_zero, List.push_toArray, List.append_toArray, List.nil_append, List.cons_append]
  gi_wp2
  go_ret
  exact ⟨rfl, rfl⟩

theorem str_size (l : List Nat) : (str l).size = l.length := by
  show (l.map UInt8.ofNat).toArray.size = _
  simp
theorem str_append (a b : List Nat) : str a ++ str b = str (a ++ b) := by
  apply ByteArray.ext
  simp [str]
theorem letter_eq : ∀ x : Fin 4, letter x.val = str [97 + x.val] := by decide
theorem str_bl (s : ByteArray) : str (bl s) = s := by
  apply ByteArray.ext
  apply Array.ext'
  simp [str, bl, Function.comp_def]
theorem bl_str (l : List Nat) (h : ∀ x ∈ l, x < 256) : bl (str l) = l := by
  unfold bl str
  simp only [List.map_map]
  conv => rhs; rw [← List.map_id l]
  apply List.map_congr_left
  intro x hx
  have := h x hx
  simp
  omega
theorem Kit.Blk.set1 {w : World} {b t : Nat} {v : Value} (h : Blk w b #[v] t) (v' : Value) : Blk (w.setCell ⟨b, 0, none⟩ v') b #[v'] t := h.set 0 v'
theorem Kit.Blk.as {w : World} {b t : Nat} {cs cs' : Array Value} (h : Blk w b cs t) (e : cs = cs') : Blk w b cs' t := e ▸ h
theorem one_int {a b : Int} (h : a = b) : (#[.int .i64 a] : Array Value) = #[.int .i64 b] := by rw [h]

theorem prefix_snoc {k : Nat} {p : List (Fin k)} {x : Fin k} (h : p ++ [x] <+: List.finRange k) : p = (List.finRange k).take x.val := by
  have h1 := List.prefix_iff_eq_take.1 h
  have hl := h.length_le
  simp only [List.length_append, List.length_cons, List.length_nil, List.length_finRange] at h1 hl
  have hts : (List.finRange k).take (p.length + 1) = (List.finRange k).take p.length ++ [⟨p.length, by omega⟩] := by
    rw [List.take_succ_eq_append_getElem (by simp; omega)]; simp
  rw [hts] at h1
  obtain ⟨h2, h3⟩ := List.append_inj' h1 rfl
  simp only [List.cons.injEq, and_true] at h3
  rw [h3]; exact h2

/-- What the first letters add to the count. -/
def smp {n : Nat} (l : List Nat) (pre : List (Fin n)) : Nat := (pre.map fun c => tm l c.val).sum
end Go.Proofs.Ytfjbodaakmapdaa

/-! ## Item -/
namespace Go.Proofs.Ytfjbodaakmapdaa
open Go.RowKit Go.Shelf Th Kit Go.Proofs.YtfjbodaakmapdaaW.PrintWords
attribute [local go_sem] Oper.semAt_some

/-- Item's variables in memory, and that nothing else has changed. -/
structure ItS (b3 b9 b10 : Nat) (S : Nat → Prop) (W0 W : World) (k i : Nat) (out : ByteArray) : Prop where
  hk : Blk W b3 #[.int .i64 k] 3
  ho : Blk W b9 #[.string out] 9
  ha : Blk W b10 #[.int .i64 i] 3
  but : But S W0 W
theorem ItS.turn {b3 b9 b10 k i : Nat} {S : Nat → Prop} {W0 W W' : World} {out : ByteArray} {row : Option Nat} (h : ItS b3 b9 b10 S W0 W k i out) (hg : W.grownBy W' row) (hr : Turn W0.heap.size W row) : ItS b3 b9 b10 S W0 W' k i out :=
  ⟨h.hk.turn hg hr, h.ho.turn hg hr, h.ha.turn hg hr, h.but.turn hg hr⟩

def ItemPost (r1 : ByteArray) (r2 : Int) (w : World) (e : Ending) (w' : World) : Prop := e = .returned (.tuple #[.string r1, .int .i64 r2]) ∧ Below w.heap.size w w'

def Given.thread_Item.f (w : ByteArray) (k : Int) : Option (ByteArray × Int) :=
  some (if isW w = true then (if 0 ≤ k ∧ k < cn (bl w) then (str (itm (bl w) k.toNat), 0) else (⟨#[]⟩, 2)) else (⟨#[]⟩, 2))

end Go.Proofs.Ytfjbodaakmapdaa

/-! ## Over -/
namespace Go.Proofs.Ytfjbodaakmapdaa
open Go.RowKit Th Kit Go.Proofs.YtfjbodaakmapdaaW.PrintWords

theorem over1_any (r k : Int) (b : Nat) (q : Bool) (w : World) (hr : 97 ≤ r ∧ r ≤ 100) (hk : 1 ≤ k ∧ k ≤ 4) (hc : w.cell? ⟨b, 0, none⟩ = some (.int .i64 k)) (hq : decide (97 + k ≤ r) = q) :
    Calls Try.prog 63 #[.int .i32 r, .pointer (some ⟨b, 0, none⟩)] w fun e w' => e = .returned (.bool q) ∧ w = w' := by
  obtain ⟨h1, h2⟩ := hr
  obtain ⟨h3, h4⟩ := hk
  go_enter Try.func63, Try.ntmps63
  cases q with
  | true =>
    have h := of_decide_eq_true hq
    have Hq := Lib.hid hq
    clear hq
    go_wp2_with (go_at_call 43; refine (within_any _ _ _ false _ (by simp; omega)).mono ?_; rintro e w' ⟨rfl, rfl⟩)
    go_ret
    exact ⟨rfl, rfl⟩
  | false =>
    have h := of_decide_eq_false hq
    have Hq := Lib.hid hq
    clear hq
    go_wp2_with (go_at_call 43; refine (within_any _ _ _ true _ (by simp; omega)).mono ?_; rintro e w' ⟨rfl, rfl⟩)
    go_ret
    exact ⟨rfl, rfl⟩

/-- All letters are among the first k. -/
def overB (l : List Nat) (k : Nat) : Bool := l.all fun x => decide (x < 97 + k)
theorem overB_iff (s : ByteArray) (k : Nat) : overB (bl s) k = true ↔ ∀ i (h : i < s.size), s[i].toNat < 97 + k := by
  simp only [overB, List.all_eq_true, decide_eq_true_eq]
  refine ⟨fun h i hi => ?_, fun h x hx => ?_⟩
  · have := h ((bl s)[i]'(by rw [bl_len]; exact hi)) (List.getElem_mem _)
    rwa [bl_get] at this
  · obtain ⟨i, hi, rfl⟩ := List.getElem_of_mem hx
    rw [bl_len] at hi
    rw [bl_get s i hi]
    exact h i hi

def IdxPost (s : ByteArray) (k : Nat) (w : World) (e : Ending) (w' : World) : Prop := ∃ r : Int, e = .returned (.int .i64 r) ∧ decide (0 ≤ r) = !overB (bl s) k ∧ -1 ≤ r ∧ r ≤ 60 ∧ Below w.heap.size w w'

set_option maxRecDepth 100000 in
set_option maxHeartbeats 1000000 in
theorem idx1_any (s : ByteArray) (k b : Nat) (w : World) (hs : isW s = true) (hk : 1 ≤ k ∧ k ≤ 4) (hc : w.cell? ⟨b, 0, none⟩ = some (.int .i64 k)) :
    Calls Try.prog 86 #[.string s, .func (.func 63) #[] #[.pointer (some ⟨b, 0, none⟩)], .bool true] w (IdxPost s k w) := by
  obtain ⟨h60, hl⟩ := (isW_iff s).1 hs
  have Hl := Lib.hid hl
  have Hs := Lib.hid hs
  have hb : b < w.heap.size := by
    by_cases h : b < w.heap.size
    · exact h
    · unfold World.cell? at hc; rw [Array.getElem?_eq_none (by simpa using h)] at hc; cases hc
  clear hl hs
  go_enter Try.func86, Try.ntmps86
  go_wp2
  go_loopw [11] (fun _ wr => ∃ (pos : Nat), wr = w.iter s pos ∧ pos ≤ s.size ∧ ∀ i (h : i < s.size), i < pos → s[i].toNat < 97 + k) (fun _ wr => s.size - wr.iterPos w.heap.size)
  case atStart => exact ⟨0, rfl, Nat.zero_le _, fun i h h' => by omega⟩
  case round =>
    obtain ⟨pos, rfl, hp, hov⟩ := hrel
    have Hov := Lib.hid hov
    clear hov
    by_cases hlt : pos < s.size
    · obtain ⟨h97, h100⟩ := Hl.out pos hlt
      have hnx : ∀ ty, (Instr.next (.pointer (some ⟨w.heap.size, 0, none⟩)) true ty).run Try.prog (w.iter s pos) = _ := fun ty => run_next_ascii w s pos ty hlt (by omega)
      have hc2 : (w.iter s (pos + 1)).cell? ⟨b, 0, none⟩ = some (.int .i64 k) := ((below_new w (.stringIter s (pos + 1))).cell (p := ⟨b, 0, none⟩) hb).trans hc
      by_cases hv : s[pos].toNat < 97 + k
      · go_wp2_with (go_at_call 63; refine (over1_any _ _ b false _ (by omega) (by omega) hc2 (by simp; omega)).mono ?_; rintro e w' ⟨rfl, rfl⟩)
        go_roundw
        case rel =>
          refine ⟨pos + 1, rfl, by omega, fun i h h' => ?_⟩
          by_cases hi : i = pos
          · subst hi; exact hv
          · exact Hov.out i h (by omega)
        case measure => simp; omega
      · go_wp2_with (go_at_call 63; refine (over1_any _ _ b true _ (by omega) (by omega) hc2 (by simp; omega)).mono ?_; rintro e w' ⟨rfl, rfl⟩)
        go_ret
        refine ⟨pos, rfl, ?_, by omega, by omega, below_new w _⟩
        have hno : overB (bl s) k = false := by
          rw [Bool.eq_false_iff, ne_eq, overB_iff]
          exact fun h => hv (h pos hlt)
        rw [hno]; simp
    · have hnx : ∀ ty, (Instr.next (.pointer (some ⟨w.heap.size, 0, none⟩)) true ty).run Try.prog (w.iter s pos) = _ := fun ty => run_next_end w s pos ty hlt
      go_wp2
      go_ret
      refine ⟨-1, rfl, ?_, by omega, by omega, below_new w _⟩
      have hyes : overB (bl s) k = true := (overB_iff s k).2 fun i h => Hov.out i h (by omega)
      rw [hyes]; rfl

theorem isOver_any (s : ByteArray) (k : Nat) (w : World) (hs : isW s = true) (hk : 1 ≤ k ∧ k ≤ 4) :
    Calls Try.prog 44 #[.string s, .int .i64 k] w fun e w' => e = .returned (.bool (overB (bl s) k)) ∧ Below w.heap.size w w' := by
  have Hs := Lib.hid hs
  clear hs
  obtain ⟨hk1, hk2⟩ := hk
  have hb := Blk.new w #[.int .i64 k] 3
  have hc := hb.cell 0
  simp only [List.getElem?_toArray, List.getElem?_cons_zero] at hc
  have Hc := Lib.hid hc
  clear hb hc
  go_enter Try.func44, Try.ntmps44
  go_wp2_with (first | (go_at_call 86; refine (idx1_any s k w.heap.size _ Hs.out ⟨hk1, hk2⟩ Hc.out).mono ?_; rintro e w' ⟨r, rfl, h1, h2, h3, hB⟩) | go_in)
  go_ret
  exact ⟨rfl, (below_new w _).trans (hB.mono (by simp))⟩
end Go.Proofs.Ytfjbodaakmapdaa

/-! ## Arch -/
namespace Go.Proofs.Ytfjbodaakmapdaa
open Go.RowKit Th Kit Go.Proofs.YtfjbodaakmapdaaW.PrintWords

/-- The greatest of the positions of the first k letters. -/
def tp (l : List Nat) (i : Nat) : Nat → Nat
  | 0 => 0
  | k + 1 => max (tp l i k) (nx l k i)
theorem tp_le (l : List Nat) (i : Nat) (h : i ≤ l.length) : ∀ k, tp l i k ≤ l.length
  | 0 => Nat.zero_le _
  | k + 1 => by rw [tp]; have := tp_le l i h k; have := nx_le l k i h; omega
theorem tp_ge (l : List Nat) (i k c : Nat) (h : c < k) : nx l c i ≤ tp l i k := by
  induction k with
  | zero => omega
  | succ k ih =>
    rw [tp]
    by_cases hc : c = k
    · subst hc; omega
    · have := ih (by omega); omega
theorem tp_in (l : List Nat) (i : Nat) : ∀ k, 1 ≤ k → ∃ c, c < k ∧ tp l i k = nx l c i
  | 1, _ => ⟨0, by omega, by simp [tp]⟩
  | k + 2, _ => by
    obtain ⟨c, hc, e⟩ := tp_in l i (k + 1) (by omega)
    rw [tp, e]
    by_cases h : nx l c i ≤ nx l (k + 1) i
    · exact ⟨k + 1, by omega, by omega⟩
    · exact ⟨c, by omega, by omega⟩

theorem max_any (b : Nat) (s : ByteArray) (i k : Nat) (w : World) (hw : IsWord w b s) (hi : i ≤ s.size) (hk : 1 ≤ k ∧ k ≤ 4) :
    Calls Try.prog 45 #[.slice (some ⟨b, 1 + i * 4, none⟩) k 4] w fun e w' => e = .returned (.int .i64 (tp (bl s) i k)) ∧ w = w' := by
  obtain ⟨hk1, hk2⟩ := hk
  have Hbl := Lib.hid (bl_len s)
  have h0 := hw.next i 0 hi (by omega)
  simp only [Nat.add_zero] at h0
  go_enter Try.func45, Try.ntmps45
  go_wp2
  go_loopw [3, 4] (fun vm vi wr => ∃ (m j : Nat), vm = .int .i64 m ∧ vi = .int .i64 j ∧ 1 ≤ j ∧ j ≤ k ∧ Aside0 (m = tp (bl s) i j) ∧ wr = w) (fun _ vi _ => 4 - (intOf vi).toNat)
  case atStart =>
    exact ⟨_, 1, rfl, rfl, Nat.le_refl _, hk1, ⟨by simp [tp]⟩, rfl⟩
  case round =>
    obtain ⟨m, j, rfl, rfl, h1, h2, HM, rfl⟩ := hrel
    by_cases hlt : j < k
    · have hc := hw.next i j hi (by omega)
      go_wp2
      go_roundw
      case rel =>
        refine ⟨max m (nx (bl s) j i), j + 1, int_eq (by split <;> omega), by go_num, by omega, by omega, ⟨by rw [tp, HM.out]⟩, trivial⟩
      case measure => simp [intOf]; omega
    · obtain rfl : j = k := by omega
      obtain rfl := HM.out
      go_wp2
      go_ret
      exact ⟨rfl, rfl⟩

/-- The ends of the arches from i on. -/
def ar (l : List Nat) (k : Nat) : Nat → Nat → List Nat
  | 0, _ => []
  | f + 1, i => if tp l i k = l.length then [] else tp l i k :: ar l k f (tp l i k + 1)

def archOk (s : ByteArray) (k : Int) : Bool := isW s && ((decide (1 ≤ k) && decide (k ≤ 4)) && overB (bl s) k.toNat)

namespace Given
def thread_Arches.f (s : ByteArray) (k : Int) : Option (List Int × Int) :=
  some (if archOk s k = true then (zs (ar (bl s) k.toNat (s.size + 1) 0), 0) else ([], 2))
end Given

set_option maxRecDepth 100000 in
set_option maxHeartbeats 2000000 in
theorem arches_walk (t : ByteArray) (k : Nat) (w : World) (ht : isW t = true) (hk : 1 ≤ k ∧ k ≤ 4) (ho : overB (bl t) k = true) :
    Calls Try.prog 16 #[.string t, .int .i64 k] w (WithinPost (zs (ar (bl t) k (t.size + 1) 0)) 0 w) := by
  obtain ⟨ht60, htl⟩ := (isW_iff t).1 ht
  obtain ⟨hk1, hk2⟩ := hk
  have Ht := Lib.hid ht
  have Ho := Lib.hid ho
  clear ht ho htl
  have hk1' : (1 : Int) ≤ (k : Int) := by omega
  have hk2' : (k : Int) ≤ 4 := by omega
  have hkr : (decide ((1 : Int) ≤ (k : Int)) && decide ((k : Int) ≤ 4)) = true := by simp; omega
  have Hkr := Lib.hid hkr
  clear hkr
  go_enter Try.func16, Try.ntmps16
  go_wp2_with fail
  refine (newWord_yes t _ Ht.out).mono ?_
  rintro e w1 ⟨rfl, hw1, hB1⟩
  go_wp2_with (first | (go_at_call 43; refine (within_any _ _ _ true _ Hkr.out).mono ?_; rintro e w2 ⟨rfl, rfl⟩) | (go_at_call 44; refine (isOver_any t k _ Ht.out ⟨hk1, hk2⟩).mono ?_; rw [Ho.out]; rintro e w2 ⟨rfl, hB2⟩))
  have hw := hw1.below hB2
  have hB := hB1.trans (hB2.mono hB1.size)
  clear hw1 hB1 hB2
  go_loopw [8, 9] (fun vo va wr => ∃ (i f : Nat) (ps : List Nat), va = .int .i64 i ∧ i ≤ t.size ∧ ps.length ≤ i ∧ t.size + 1 ≤ f + i ∧
      Aside0 (ar (bl t) k (t.size + 1) 0 = ps ++ ar (bl t) k f i) ∧ Aside0 (Kd.R (Kd.int .i64) 3 wr w2.heap.size (fun _ => True) vo (zs ps)) ∧ Aside0 (Below w2.heap.size w2 wr)) (fun _ va _ => t.size + 1 - (intOf va).toNat)
  case atStart =>
    exact ⟨0, t.size + 1, [], rfl, Nat.zero_le _, Nat.zero_le _, by omega, ⟨rfl⟩, ⟨Kd.R_nil _ _ _ _ _⟩, ⟨Below.refl _ _⟩⟩
  case round =>
    obtain ⟨i, f, ps, rfl, hi, hps, hf, HA, HO, HB⟩ := hrel
    have hwr := hw.below HB.out
    obtain ⟨f, rfl⟩ : ∃ g, f = g + 1 := ⟨f - 1, by omega⟩
    have hle := tp_le (bl t) i (by rw [bl_len]; exact hi) k
    rw [bl_len] at hle
    have hge : i ≤ tp (bl t) i k := Nat.le_trans (nx_ge _ 0 _) (tp_ge _ _ _ 0 (by omega))
    by_cases he : tp (bl t) i k = t.size
    · go_wp2_with (go_at_call 45; refine (max_any _ t i k _ hwr hi ⟨hk1, hk2⟩).mono ?_; rintro e w' ⟨rfl, rfl⟩)
      go_ret2
      refine ⟨_, rfl, ?_, hB.trans (HB.out.mono hB.size)⟩
      rw [HA.out, ar, if_pos (by rw [bl_len]; exact he), List.append_nil]
      exact Kd.R_lower HO.out hB.size
    · go_wp2_with (first | (go_at_call 45; refine (max_any _ t i k _ hwr hi ⟨hk1, hk2⟩).mono ?_; rintro e w' ⟨rfl, rfl⟩) | ((with_reducible refine gate_builtin (b := .append) (xs := #[.tmp 42, .tmp 44]) rfl ?_); at_builtin; refine Kd.R_append (Kd.int .i64) (w0 := w2) w2.heap.size rfl (.tmp 42) (.tmp 44) 24 3 (.int .i64 0) 8 rfl Try.underlying24 info3 rfl (by decide) (by omega) u8 (zs ps) (tp (bl t) i k) [.int .i64 (tp (bl t) i k)] (fun _ => True) (fun _ => False) rfl rfl rfl (fun _ hk => hk.elim) (fun _ _ => trivial) HO.out HB.out HB.out.size (by rw [zs_len]; omega) ?_; intro v4 w4 ho hb hg hat))
      go_roundw
      case rel =>
        refine ⟨tp (bl t) i k + 1, f, ps ++ [tp (bl t) i k], by go_num, by omega, by simp; omega, by omega, ⟨?_⟩, ⟨by rw [zs_snoc]; exact ho⟩, ⟨hb⟩⟩
        rw [HA.out, ar, if_neg (by rw [bl_len]; exact he), List.append_assoc]; rfl
      case measure => simp [intOf]; omega

theorem arches_no (t : ByteArray) (k : Int) (w : World) (h : archOk t k = false) : Calls Try.prog 16 #[.string t, .int .i64 k] w (WithinPost [] 2 w) := by
  unfold archOk at h
  cases ht : isW t with
  | false =>
    have Ht := Lib.hid ht
    clear ht h
    go_enter Try.func16, Try.ntmps16
    go_wp2_with fail
    refine (newWord_no t _ Ht.out).mono ?_
    rintro e w1 ⟨rfl, hB1⟩
    go_wp2
    go_ret2
    exact ⟨_, rfl, Kd.R_nil _ _ _ _ _, hB1⟩
  | true =>
    have Ht := Lib.hid ht
    cases hkr : (decide (1 ≤ k) && decide (k ≤ 4)) with
    | false =>
      have Hkr := Lib.hid hkr
      clear ht h hkr
      go_enter Try.func16, Try.ntmps16
      go_wp2_with fail
      refine (newWord_yes t _ Ht.out).mono ?_
      rintro e w1 ⟨rfl, _, hB1⟩
      go_wp2_with (go_at_call 43; refine (within_any _ _ _ false _ Hkr.out).mono ?_; rintro e w2 ⟨rfl, rfl⟩)
      go_ret2
      exact ⟨_, rfl, Kd.R_nil _ _ _ _ _, hB1⟩
    | true =>
      have hk : 1 ≤ k ∧ k ≤ 4 := by simpa using hkr
      obtain ⟨k, rfl⟩ : ∃ n : Nat, k = n := ⟨k.toNat, by omega⟩
      have ho : overB (bl t) k = false := by rw [ht, hkr] at h; simpa using h
      have Ho := Lib.hid ho
      clear ho
      have Hkr := Lib.hid hkr
      clear ht h hkr
      have Hk : 1 ≤ k ∧ k ≤ 4 := by omega
      clear hk
      go_enter Try.func16, Try.ntmps16
      go_wp2_with fail
      refine (newWord_yes t _ Ht.out).mono ?_
      rintro e w1 ⟨rfl, _, hB1⟩
      go_wp2_with (first | (go_at_call 43; refine (within_any _ _ _ true _ Hkr.out).mono ?_; rintro e w2 ⟨rfl, rfl⟩) | (go_at_call 44; refine (isOver_any t k _ Ht.out Hk).mono ?_; rw [Ho.out]; rintro e w2 ⟨rfl, hB2⟩))
      go_ret2
      exact ⟨_, rfl, Kd.R_nil _ _ _ _ _, hB1.trans (hB2.mono hB1.size)⟩

theorem Given.thread_Arches.calls (a0 : ByteArray) (a1 : Int) (r1 : List Int) (r2 : Int) (w : World) (h : Given.thread_Arches.f a0 a1 = some (r1, r2)) :
    Calls Try.prog 16 #[.string a0, .int .i64 a1] w fun e w' => ∃ v0_ : Value, e = .returned (.tuple #[v0_, .int .i64 r2]) ∧ Kd.R (Kd.int .i64) 3 w' w.heap.size (fun _ => True) v0_ r1 ∧ Below w.heap.size w w' := by
  show Calls Try.prog 16 #[.string a0, .int .i64 a1] w (WithinPost r1 r2 w)
  unfold Given.thread_Arches.f at h
  cases hu : archOk a0 a1 with
  | false =>
    rw [hu] at h
    obtain ⟨rfl, rfl⟩ : ([] : List Int) = r1 ∧ (2 : Int) = r2 := by simpa using h
    exact arches_no a0 a1 w hu
  | true =>
    rw [hu, if_pos rfl] at h
    unfold archOk at hu
    simp only [Bool.and_eq_true, decide_eq_true_eq] at hu
    obtain ⟨ht, ⟨h1, h2⟩, ho⟩ := hu
    obtain ⟨k, rfl⟩ : ∃ n : Nat, a1 = n := ⟨a1.toNat, by omega⟩
    obtain ⟨rfl, rfl⟩ : zs (ar (bl a0) k (a0.size + 1) 0) = r1 ∧ (0 : Int) = r2 := by simpa using h
    exact arches_walk a0 k w ht (by omega) ho

end Go.Proofs.Ytfjbodaakmapdaa

/-! ## Abs -/
namespace Go.Proofs.Ytfjbodaakmapdaa
open Go.RowKit Go.Shelf Th Kit Go.Proofs.YtfjbodaakmapdaaW.PrintWords
attribute [local go_sem] Oper.semAt_some

/-- How many letters the shortest word of the first k letters has that is no subsequence of the word from i on. -/
def lsf (l : List Nat) (k : Nat) : Nat → Nat → Nat
  | 0, _ => 0
  | f + 1, i => if i ≤ l.length then 1 + lsf l k f (tp l i k + 1) else 0
theorem lsf_irr (l : List Nat) (k : Nat) (hk : 1 ≤ k) : ∀ f g i, l.length + 1 ≤ f + i → l.length + 1 ≤ g + i → lsf l k f i = lsf l k g i
  | 0, 0, _, _, _ => rfl
  | 0, g + 1, i, h, _ => by rw [lsf, lsf, if_neg (by omega)]
  | f + 1, 0, i, _, h => by rw [lsf, lsf, if_neg (by omega)]
  | f + 1, g + 1, i, h, h' => by
    rw [lsf, lsf]
    split
    · have := Nat.le_trans (nx_ge l 0 i) (tp_ge l i k 0 hk)
      rw [lsf_irr l k hk f g _ (by omega) (by omega)]
    · rfl
def ls (l : List Nat) (k i : Nat) : Nat := lsf l k (l.length + 1) i
theorem ls_step (l : List Nat) (k i : Nat) (hk : 1 ≤ k) (h : i ≤ l.length) : ls l k i = 1 + ls l k (tp l i k + 1) := by
  have := Nat.le_trans (nx_ge l 0 i) (tp_ge l i k 0 hk)
  unfold ls
  rw [lsf, if_pos h, lsf_irr l k hk l.length (l.length + 1) _ (by omega) (by omega)]
theorem ls_end (l : List Nat) (k i : Nat) (h : l.length < i) : ls l k i = 0 := by
  unfold ls
  rw [lsf, if_neg (by omega)]
theorem ls_le (l : List Nat) (k : Nat) (hk : 1 ≤ k) (i : Nat) (h : i ≤ l.length + 1) : ls l k i + i ≤ l.length + 1 := by
  obtain ⟨n, hn⟩ : ∃ n, n = l.length + 1 - i := ⟨_, rfl⟩
  induction n using Nat.strongRecOn generalizing i with
  | _ n ih =>
    by_cases hi : i ≤ l.length
    · have h1 := Nat.le_trans (nx_ge l 0 i) (tp_ge l i k 0 hk)
      have h2 := tp_le l i hi k
      have := ih (l.length + 1 - (tp l i k + 1)) (by omega) (tp l i k + 1) (by omega) rfl
      rw [ls_step l k i hk hi]; omega
    · rw [ls_end l k i (by omega)]; omega

/-- The first absent word from i on. -/
def ab (l : List Nat) (k : Nat) : Nat → Nat → List Nat
  | 0, _ => []
  | f + 1, i => if i ≤ l.length then (match (List.range k).find? (fun c => 1 + ls l k (nx l c i + 1) == ls l k i) with
    | some c => (97 + c) :: ab l k f (nx l c i + 1)
    | none => []) else []

theorem mem_take_fin {k : Nat} (i j : Nat) {h : j < k} (hj : j < i) : (⟨j, h⟩ : Fin k) ∈ (List.finRange k).take i := by
  rw [List.mem_take_iff_getElem]
  exact ⟨j, by simp; omega, by simp⟩

/-- The number in a box. -/
def boxInt (v : Value) (w : World) : Int := match v with
  | .pointer (some p) => intOf ((w.cell? p).getD undef)
  | _ => 0
theorem boxInt_of {w : World} {p : Addr} {i : Int} (h : w.cell? p = some (.int .i64 i)) : boxInt (.pointer (some p)) w = i := by
  show intOf ((w.cell? p).getD undef) = i
  rw [h]; rfl

structure LB (s : ByteArray) (k m : Nat) (cs : Array Value) : Prop where
  size : cs.size = 62
  row : ∀ r, m ≤ r → r ≤ s.size + 1 → cs[r]? = some (.int .i64 (ls (bl s) k r))

/-- Absent's variables in memory, and that nothing else has changed. -/
structure AbS (b10 b11 : Nat) (S : Nat → Prop) (W0 W : World) (i : Nat) (out : ByteArray) : Prop where
  ho : Blk W b10 #[.string out] 9
  ha : Blk W b11 #[.int .i64 i] 3
  but : But S W0 W
theorem AbS.turn {b10 b11 i : Nat} {S : Nat → Prop} {W0 W W' : World} {out : ByteArray} {row : Option Nat} (h : AbS b10 b11 S W0 W i out) (hg : W.grownBy W' row) (hr : Turn W0.heap.size W row) : AbS b10 b11 S W0 W' i out :=
  ⟨h.ho.turn hg hr, h.ha.turn hg hr, h.but.turn hg hr⟩

set_option maxRecDepth 100000 in
set_option maxHeartbeats 4000000 in
theorem absent_walk (t : ByteArray) (k : Nat) (w : World) (ht : isW t = true) (hk : 1 ≤ k ∧ k ≤ 4) (ho : overB (bl t) k = true) :
    Calls Try.prog 17 #[.string t, .int .i64 k] w (ItemPost (str (ab (bl t) k (t.size + 1) 0)) 0 w) := by
  obtain ⟨ht60, htl⟩ := (isW_iff t).1 ht
  obtain ⟨hk1, hk2⟩ := hk
  have Ht := Lib.hid ht
  have Ho := Lib.hid ho
  have Hbl := Lib.hid (bl_len t)
  clear ht ho htl
  have hk1' : (1 : Int) ≤ (k : Int) := by omega
  have hk2' : (k : Int) ≤ 4 := by omega
  have hkr : (decide ((1 : Int) ≤ (k : Int)) && decide ((k : Int) ≤ 4)) = true := by simp; omega
  have Hkr := Lib.hid hkr
  clear hkr
  refine (callsIn_wide (n := 9)).1 ?_
  refine callsIn_of_wp_marks Try.func17 rfl trivial ?_ rfl
  simp only [Try.ntmps17, List.size_toArray, List.length_cons, List.length_nil, Nat.reduceAdd, Nat.reduceSub, Array.replicate_succ, Array.replicate_zero, List.push_toArray, List.append_toArray, List.nil_append, List.cons_append]
  refine wpIn_wide.2 ?_
  go_wp2_with fail
  refine (newWord_yes t _ Ht.out).mono ?_
  rintro e w1 ⟨rfl, hw1, hB1⟩
  have hlt1 := hw1.lt
  go_wp2_with fail
  refine (within_any _ _ _ true _ Hkr.out).mono ?_
  rintro e w2 ⟨rfl, rfl⟩
  have hp2 := Blk.new w1 #[.pointer (some ⟨w.heap.size, 0, none⟩)] 67
  have hw2 := hw1.below (below_new w1 (.cells #[.pointer (some ⟨w.heap.size, 0, none⟩)] 67))
  have hB2 := hB1.trans ((below_new w1 (.cells #[.pointer (some ⟨w.heap.size, 0, none⟩)] 67)).mono hB1.size)
  clear hw1 hB1
  go_wp2_with fail
  refine (isOver_any t k _ Ht.out ⟨hk1, hk2⟩).mono ?_
  rw [Ho.out]
  rintro e w2 ⟨rfl, hB3⟩
  have hw3 := hw2.below hB3
  have hp3 := hp2.below' hB3
  have hB := hB2.trans (hB3.mono hB2.size)
  clear hw2 hp2 hB2 hB3
  go_wp2
  go_loopw [9] (fun v wr => ∃ (q : Int) (m : Nat), v = .int .i64 q ∧ q = m - 1 ∧ m ≤ t.size + 1 ∧ Below w2.heap.size w2 wr ∧ ∃ cs, Blk wr w2.heap.size cs 76 ∧ LB t k m cs) (fun v _ => (intOf v + 1).toNat)
  case atStart =>
    refine ⟨_, t.size + 1, rfl, by omega, Nat.le_refl _, below_new _ _, _, Blk.new _ _ _, rfl, fun r h1 h2 => ?_⟩
    obtain rfl : r = t.size + 1 := by omega
    rw [ls_end _ _ _ (by rw [Hbl.out]; omega)]
    rcases (show t.size = t.size ∧ t.size + 1 < 62 by omega) with ⟨_, h62⟩
    generalize t.size + 1 = j at h62
    have hall : ∀ j : Fin 62, (Array.replicate 62 (Value.int .i64 0))[j.val]? = some (.int .i64 ((0 : Nat) : Int)) := fun j => by simp
    exact hall ⟨j, h62⟩
  case round =>
    obtain ⟨q, m, rfl, hq, hm, hB4, cs, hcs, hrow⟩ := hrel
    have hp4 := hp3.below' hB4
    have hw4 := hw3.below hB4
    have hp3lt := hp3.lt
    have cp := hp4.cell 0
    simp only [List.getElem?_toArray, List.getElem?_cons_zero] at cp
    cases m with
    | zero =>
      obtain rfl : q = -1 := by omega
      clear hq
      have hcr := hrow.row
      have hbl2 := hcs
      clear hcr
      go_wp2
      have hb10 := hB4.size
      obtain ⟨b10, hb⟩ : ∃ b, b = wr.heap.size := ⟨_, rfl⟩
      obtain ⟨b11, hb1⟩ : ∃ b, b = wr.heap.size + 1 := ⟨_, rfl⟩
      have ho0 := (Blk.new wr #[.string ⟨#[]⟩] 9).alloc (.cells #[.int .i64 0] 3)
      have ha0 := Blk.new2 wr (.cells #[.string ⟨#[]⟩] 9) #[.int .i64 0] 3
      have hp0 := (hp4.alloc (.cells #[.string ⟨#[]⟩] 9)).alloc (.cells #[.int .i64 0] 3)
      have hl0 := (hcs.alloc (.cells #[.string ⟨#[]⟩] 9)).alloc (.cells #[.int .i64 0] 3)
      have hw0 := (hw4.below (below_new wr (.cells #[.string ⟨#[]⟩] 9))).below (below_new _ (.cells #[.int .i64 0] 3))
      have hB0 := hB.trans ((hB4.trans ((below_new2 wr (.cells #[.string ⟨#[]⟩] 9) (.cells #[.int .i64 0] 3)).mono hB4.size)).mono hB.size)
      have hs0 : ((wr.alloc (.cells #[.string ⟨#[]⟩] 9)).alloc (.cells #[.int .i64 0] 3)).heap.size = wr.heap.size + 2 := by simp
      rw [← hb] at ho0
      rw [← hb1] at ha0
      have q0 := hcs.lt
      have q1 : w2.heap.size < b10 := by omega
      have q2 : b11 = b10 + 1 := by omega
      have q3 : ((wr.alloc (.cells #[.string ⟨#[]⟩] 9)).alloc (.cells #[.int .i64 0] 3)).heap.size = b10 + 2 := by omega
      rw [← hb1, ← hb]
      clear hs0 hb10 q0
      generalize (wr.alloc (.cells #[.string ⟨#[]⟩] 9)).alloc (.cells #[.int .i64 0] 3) = W0 at ho0 ha0 hp0 hl0 hw0 hB0 q3 ⊢
      have q4 := hp3.lt
      clear hp4 hcs hbl2 hw4 hB4 cp hb hb1
      obtain ⟨S, hS⟩ : ∃ S : Nat → Prop, S = fun b => b = b10 ∨ W0.heap.size - 1 ≤ b := ⟨_, rfl⟩
      have HS := Lib.hid hS
      clear hS
      refine wp_loop (fun a wr => ∃ (u53 u54 u55 u56 u57 u58 u82 : Value) (ds : List Deferred) (b11 i top f : Nat) (pre : List Nat),
        a = { tmps := #[Value.string t, Value.int IntKind.i64 ↑k, undef, undef, Value.string { data := #[] }, Value.int IntKind.i64 0, Value.pointer (some ⟨w1.heap.size, 0, none⟩), Value.bool true, Value.pointer (some ⟨w2.heap.size, 0, none⟩), Value.int IntKind.i64 (-1), Value.pointer (some ⟨b10, 0, none⟩), Value.pointer (some ⟨b11, 0, none⟩), undef, undef, undef, Value.tuple #[Value.pointer (some ⟨w.heap.size, 0, none⟩), Value.bool true], Value.string t, Value.tuple #[Value.pointer (some ⟨w.heap.size, 0, none⟩), Value.bool true], Value.pointer (some ⟨w.heap.size, 0, none⟩), Value.bool true, Value.bool true, Value.bool false, Value.bool false, Value.int IntKind.i64 ↑k, Value.bool true, Value.bool false, Value.bool false, Value.bool false, Value.string t, Value.int IntKind.i64 ↑k, Value.bool true, Value.bool false, Value.bool false, Value.string t, Value.int IntKind.i64 ↑t.size, Value.int IntKind.i64 (-1), Value.bool false, u37, u38, u39, u40, u41, u42, u43, u44, u45, u46, u47, u48, u49, u50, u51, u52, u53, u54, u55, u56, u57, u58, undef, undef, undef, undef, undef, undef, undef, undef, undef, undef, undef, undef, undef, undef, undef, undef, undef, undef, undef, undef, undef, undef, undef, u82, undef], defers := ds } ∧ Blk wr b10 #[.string (str pre)] 9 ∧ Blk wr b11 #[.int .i64 i] 3 ∧ b10 < b11 ∧
        i ≤ t.size + 1 ∧ t.size + 1 ≤ f + i ∧ RowKit.Hid (ab (bl t) k (t.size + 1) 0 = pre ++ ab (bl t) k f i) ∧ pre.length ≤ i ∧ But S W0 wr ∧ Marks W0.heap.size wr ds top ∧ top ≤ wr.heap.size)
        (fun a wr => t.size + 1 - (boxInt (a.tmps.getD 11 undef) wr).toNat) ?_ ?_
      · exact ⟨_, _, _, _, _, _, _, [], b11, 0, 0, t.size + 1, [], rfl, ho0, ha0, by omega, Nat.zero_le _, by omega, Lib.hid rfl, Nat.le_refl _, But.refl _ _, trivial, Nat.zero_le _⟩
      rintro a wr ⟨u53, u54, u55, u56, u57, u58, u82, ds, b11, i, top, f, pre, rfl, ho1, ha1, hb11, hi, hf, Hit, hpi, hBt, hM, htop⟩
      have c1 := ho1.cell 0
      have c2 := ha1.cell 0
      simp only [List.getElem?_toArray, List.getElem?_cons_zero] at c1 c2
      by_cases hi2 : i ≤ t.size
      · have Hc2 := Lib.hid c2
        go_wp2_with fail
        refine (callsIn_wide.1 (alphabet_in Fence.wide 8 trivial rfl k _)).mono ?_
        rintro e w2' ⟨rfl, rfl⟩
        have ho2 := ho1.alloc (.cells #[.int .i64 k] 3)
        have ha2 := ha1.alloc (.cells #[.int .i64 k] 3)
        have hBt2 := hBt.alloc (.cells #[.int .i64 k] 3)
        have hM2 := hM.alloc (.cells #[.int .i64 k] 3)
        have hb2 := Blk.new wr #[.int .i64 k] 3
        have hsz : (wr.alloc (.cells #[.int .i64 k] 3)).heap.size = wr.heap.size + 1 := by simp
        generalize wr.alloc (.cells #[.int .i64 k] 3) = W2 at ho2 ha2 hBt2 hM2 hb2 hsz ⊢
        have ho1lt := ho1.lt
        have ha1lt := ha1.lt
        clear ho1 ha1 hBt hM c1 c2
        go_wp2
        have c4 := hb2.cell 0
        simp only [List.getElem?_toArray, List.getElem?_cons_zero] at c4
        obtain ⟨R, hR⟩ : ∃ R : Nat → Prop, R = fun b => b = b10 ∨ b = b11 := ⟨_, rfl⟩
        have HR := Lib.hid hR
        clear hR
        refine (wpIn_wide (n := 9)).1 ?_
        refine wpIn_rangeFunc_ownG (F := Fence.wide) (n := 9) rfl (by omega) (gf := 64) (lb := #[.pointer (some ⟨wr.heap.size, 0, none⟩)]) rfl trivial (enters_of Try.func64 (by kernel_rfl) rfl)
          (alpha_stops Fence.wide 8 trivial rfl (by omega) wr.heap.size k (by omega) W2 (by omega) c4) (fun _ _ => trivial) (fun _ _ _ _ _ _ _ _ => trivial) (Below.refl _ _) (fun _ => rfl)
          (fun pr W => (∀ c ∈ pr, 1 + ls (bl t) k (nx (bl t) c.val i + 1) ≠ ls (bl t) k i) ∧ AbS b10 b11 R W2 W i (str pre))
          (fun c pr W => c = .exit 4 ∧ ∃ (p : List (Fin k)) (x : Fin k), pr = p ++ [x] ∧ (∀ c ∈ p, 1 + ls (bl t) k (nx (bl t) c.val i + 1) ≠ ls (bl t) k i) ∧ 1 + ls (bl t) k (nx (bl t) x.val i + 1) = ls (bl t) k i ∧
            AbS b10 b11 R W2 W (nx (bl t) x.val i + 1) (str (pre ++ [97 + x.val])))
          (fun s A B row hs hg hr => ⟨hs.1, hs.2.turn hg hr⟩)
          (fun c s A B row hs hg hr => by obtain ⟨hc, p, x, e, h1, h2, h3⟩ := hs; exact ⟨hc, p, x, e, h1, h2, h3.turn hg hr⟩)
          ⟨by simp, ho2, ha2, But.refl _ _⟩
          (fun x => { tmps := #[Value.string t, Value.int IntKind.i64 ↑k, undef, undef, Value.string { data := #[] }, Value.int IntKind.i64 0, Value.pointer (some ⟨w1.heap.size, 0, none⟩), Value.bool true, Value.pointer (some ⟨w2.heap.size, 0, none⟩), Value.int IntKind.i64 (-1), Value.pointer (some ⟨b10, 0, none⟩), Value.pointer (some ⟨b11, 0, none⟩), Value.int IntKind.i64 (x.val : Int), Value.string (letter x.val), undef, Value.tuple #[Value.pointer (some ⟨w.heap.size, 0, none⟩), Value.bool true], Value.string t, Value.tuple #[Value.pointer (some ⟨w.heap.size, 0, none⟩), Value.bool true], Value.pointer (some ⟨w.heap.size, 0, none⟩), Value.bool true, Value.bool true, Value.bool false, Value.bool false, Value.int IntKind.i64 ↑k, Value.bool true, Value.bool false, Value.bool false, Value.bool false, Value.string t, Value.int IntKind.i64 ↑k, Value.bool true, Value.bool false, Value.bool false, Value.string t, Value.int IntKind.i64 ↑t.size, Value.int IntKind.i64 (-1), Value.bool false, u37, u38, u39, u40, u41, u42, u43, u44, u45, u46, u47, u48, u49, u50, u51, u52, Value.int IntKind.i64 ↑i, Value.string t, Value.int IntKind.i64 ↑t.size, Value.bool true, Value.int IntKind.i64 ↑k, Value.func (Fn.func 64) #[] #[Value.pointer (some ⟨wr.heap.size, 0, none⟩)], Value.int IntKind.i64 (x.val : Int), Value.string (letter x.val), undef, undef, undef, undef, undef, undef, undef, undef, undef, undef, undef, undef, undef, undef, undef, undef, undef, undef, undef, undef, undef, u82, undef], defers := [] }) ?assign ?body ?done ?stop
        case assign =>
          intro l x W K hK
          gi_wp2
          exact hK
        case body =>
          rintro l pr x W ⟨hsm, hI⟩ _
          have hbt := hBt2.trans (hI.but.mono (S' := S) (fun b hb => by rw [HR.out] at hb; rw [HS.out]; rcases hb with rfl | rfl; exact .inl rfl; exact .inr (by omega)))
          have hx4 := x.isLt
          have hn1 : ¬ S w1.heap.size := by rw [HS.out]; omega
          have hn3 : ¬ S w2.heap.size := by rw [HS.out]; omega
          have hnw : ¬ S w.heap.size := by rw [HS.out]; omega
          have cp := (hp0.but hbt hn1).cell 0
          have co := hI.ho.cell 0
          have ca := hI.ha.cell 0
          have fo := hI.ho.frozen 0
          have fa := hI.ha.frozen 0
          have hlW := hl0.but hbt hn3
          have hwW := hw0.but hbt hnw
          simp only [List.getElem?_toArray, List.getElem?_cons_zero] at cp co ca
          clear hn1 hn3 hnw
          have hle := nx_le (bl t) x.val i (by rw [Hbl.out]; exact hi2)
          rw [Hbl.out] at hle
          have hge := nx_ge (bl t) x.val i
          have cn := hwW.next i x.val hi2 (by omega)
          obtain ⟨A, hA⟩ : ∃ A, A = ls (bl t) k (nx (bl t) x.val i + 1) := ⟨_, rfl⟩
          obtain ⟨B, hBB⟩ : ∃ B, B = ls (bl t) k i := ⟨_, rfl⟩
          have cl : W.cell? ⟨w2.heap.size, nx (bl t) x.val i + 1, none⟩ = some (.int .i64 A) := by
            rw [hlW.cell, hA]; exact hrow.row _ (by omega) (by omega)
          have cl2 : W.cell? ⟨w2.heap.size, i, none⟩ = some (.int .i64 B) := by
            rw [hlW.cell, hBB]; exact hrow.row _ (by omega) (by omega)
          have hl1 := ls_le (bl t) k hk1 (nx (bl t) x.val i + 1) (by rw [Hbl.out]; omega)
          have hl2 := ls_le (bl t) k hk1 i (by rw [Hbl.out]; omega)
          rw [Hbl.out] at hl1 hl2
          rw [← hA] at hl1
          rw [← hBB] at hl2
          have HA := Lib.hid hA
          have HBB := Lib.hid hBB
          clear hA hBB
          have e1 : IntKind.i64.wrap (1 + (A : Int)) = 1 + (A : Int) := IntWalk.i64_in _ (by omega)
          have e2 : ((nx (bl t) x.val i : Int) + 1).toNat = nx (bl t) x.val i + 1 := by omega
          have e3 : IntKind.i64.wrap ((nx (bl t) x.val i : Int) + 1) = (nx (bl t) x.val i : Int) + 1 := IntWalk.i64_in _ (by omega)
          have j1 : (0 : Int) ≤ (nx (bl t) x.val i : Int) + 1 := by omega
          have j2 : (nx (bl t) x.val i : Int) + 1 < 62 := by omega
          have j3 : (i : Int) < 62 := by omega
          have j4 : (i : Int) < 61 := by omega
          have j5 : (x.val : Int) < 4 := by omega
          gi_wp2
          refine wpIn_region_quiet_round (by kernel_rfl) (by kernel_rfl) (by kernel_rfl) ?_
          repeat (gi_big_quiet_step (fail))
          refine wpQuietIn_nil ?_
          rintro _ ⟨nq, rfl⟩
          gi_wp2
          refine wpIn_region_quiet_round (by kernel_rfl) (by kernel_rfl) (by kernel_rfl) ?_
          repeat (gi_big_quiet_step (fail))
          refine wpQuietIn_nil ?_
          rintro _ ⟨nq2, rfl⟩
          have hk2 := ((keepsO_drewN W nq).trans (keepsO_drewN _ nq2))
          have hI2 : AbS b10 b11 R W2 ((W.drewN nq).drewN nq2) i (str pre) := ⟨(hI.ho.drewN _).drewN _, (hI.ha.drewN _).drewN _, (hI.but.drewN _).drewN _⟩
          have co := hI2.ho.cell 0
          have ca := hI2.ha.cell 0
          have fo := hI2.ho.frozen 0
          have fa := hI2.ha.frozen 0
          simp only [List.getElem?_toArray, List.getElem?_cons_zero] at co ca
          generalize (W.drewN nq).drewN nq2 = W3 at hk2 hI2 co ca fo fa ⊢
          clear e1 e2 e3
          by_cases hq : 1 + (A : Int) = (B : Int)
          · iterate 6 gi_step
            have hps : (str pre).size + (letter x.val).size ≤ 9223372036854775807 := by
              rw [letter_eq ⟨x.val, by omega⟩, str_size, str_size]; simp; omega
            gi_wp2
            refine ⟨((hk2.trans (KeepsOthers.setCell _ _ _)).trans (KeepsOthers.setCell _ _ _)).from _, rfl, pr, x, rfl, hsm, by rw [← HA.out, ← HBB.out]; omega, ?_, ?_, ?_⟩
            · exact ((hI2.ho.set1 _).other _ (by simp; omega) _).as (by rw [letter_eq ⟨x.val, by omega⟩, str_append])
            · exact ((hI2.ha.other _ (by simp; omega) _).set1 _).as (one_int (by omega))
            · exact (hI2.but.set (.inl (by rw [HR.out]; simp)) _).set (.inl (by rw [HR.out]; simp)) _
          · gi_wp2
            refine ⟨hk2.from _, trivial, ?_, hI2.ho, hI2.ha, hI2.but⟩
            intro c hc
            rcases List.mem_append.1 hc with hc | hc
            · exact hsm c hc
            · obtain rfl := List.mem_singleton.1 hc
              rw [← HA.out, ← HBB.out]; omega
        case done =>
          rintro D xs W _ rfl ⟨hsm, _⟩ _
          obtain ⟨c, hc, he⟩ := tp_in (bl t) i k hk1
          have hst := ls_step (bl t) k i hk1 (by rw [Hbl.out]; exact hi2)
          rw [he] at hst
          exact absurd hst.symm (hsm ⟨c, hc⟩ (List.mem_finRange _))
        case stop =>
          rintro D c pr W hD hpre ⟨rfl, p, x, rfl, hs1, hs2, hI⟩ hK
          have hp := prefix_snoc hpre
          have hx4 := x.isLt
          have hle := nx_le (bl t) x.val i (by rw [Hbl.out]; exact hi2)
          rw [Hbl.out] at hle
          have hge := nx_ge (bl t) x.val i
          have hDlt : D < W.heap.size := (Array.getElem?_eq_some_iff.1 hK).1
          have hMW := hM2.but hI.but (by omega) (fun D hD hs => by
            rw [HR.out] at hs
            rcases hs with rfl | rfl
            · rw [ho2.out] at hD; cases hD
            · rw [ha2.out] at hD; cases hD)
          have hbt := hBt2.trans (hI.but.mono (S' := S) (fun b hb => by rw [HR.out] at hb; rw [HS.out]; rcases hb with rfl | rfl; exact .inl rfl; exact .inr (by omega)))
          have hs0 := hBt2.size
          have cW := hI.ha.cell 0
          simp only [List.getElem?_toArray, List.getElem?_cons_zero] at cW
          have hfind : (List.range k).find? (fun c => 1 + ls (bl t) k (nx (bl t) c i + 1) == ls (bl t) k i) = some x.val := by
            rw [List.find?_range_eq_some]
            refine ⟨by simpa using hs2, by simp, fun j hj => ?_⟩
            have := hs1 ⟨j, by omega⟩ (by rw [hp]; exact mem_take_fin _ _ hj)
            simpa using this
          obtain ⟨f, rfl⟩ : ∃ g, f = g + 1 := ⟨f - 1, by omega⟩
          have hab : ab (bl t) k (t.size + 1) 0 = (pre ++ [97 + x.val]) ++ ab (bl t) k f (nx (bl t) x.val i + 1) := by
            rw [Hit.out, ab, if_pos (by rw [Hbl.out]; exact hi2), hfind]; simp
          have Hab := Lib.hid hab
          have HcW := Lib.hid cW
          have Hc2 := Lib.hid Hc2.out
          clear hab hfind hs1 hs2 hp
          gi_wp2
          go_wp2
          refine ⟨⟨_, _, _, _, _, _, _, _, W.heap.size, nx (bl t) x.val i + 1, D + 1, f, pre ++ [97 + x.val], rfl, hI.ho.alloc _, Blk.new _ _ _, ?_, by omega, by omega, Hab, by simp; omega, hbt.alloc _, ?_, ?_⟩, ?_⟩
          · omega
          · exact ⟨D, rfl, by omega, by omega, by rw [Below.heap_alloc _ _ _ hDlt]; exact hK, (hMW.alloc _).up (by omega)⟩
          · simp; omega
          · refine Nat.lt_of_le_of_lt (Nat.le_of_eq (congrArg (fun z : Int => t.size + 1 - z.toNat) (boxInt_of (i := (nx (bl t) x.val i : Int) + 1) ?_))) (Nat.lt_of_lt_of_le ?_ (Nat.le_of_eq (congrArg (fun z : Int => t.size + 1 - z.toNat) (boxInt_of (p := ⟨b11, 0, none⟩) Hc2.out)).symm))
            · have := (Blk.new W #[.int .i64 ((nx (bl t) x.val i : Int) + 1)] 3).cell 0
              simp only [List.getElem?_toArray, List.getElem?_cons_zero] at this
              exact this
            · show t.size + 1 - _ < t.size + 1 - _
              omega
      · have hab : pre = ab (bl t) k (t.size + 1) 0 := by
          rw [Hit.out]
          cases f with
          | zero => rw [ab, List.append_nil]
          | succ f => rw [ab, if_neg (by rw [Hbl.out]; exact hi2), List.append_nil]
        have Hab := Lib.hid hab
        clear hab
        go_wp2
        refine leaves_marks (v := .tuple #[.string (str pre), .int .i64 0]) ds wr top hM (fun w' => results_tmp2 (t := 4) (u := 5) rfl _ _ _) (fun w' hb => ⟨?_, ?_⟩)
        · rw [Hab.out]
        · have h1 := hBt.below hB0.size (fun k hk => by
            rw [HS.out] at hk
            omega)
          exact (hB0.trans h1).trans (hb.mono hB0.size)
    | succ j =>
      obtain rfl : q = (j : Int) := by omega
      clear hq
      have hsz := hrow.size
      obtain ⟨x, hx⟩ : ∃ x, wr.cell? ⟨w2.heap.size, j, none⟩ = some x := by
        rw [hcs.cell]
        exact ⟨_, Array.getElem?_eq_getElem (by omega)⟩
      have hf : wr.frozen? ⟨w2.heap.size, j, none⟩ = false := hcs.frozen _
      have j3 : (j : Int) < 62 := by omega
      have hle := tp_le (bl t) j (by rw [Hbl.out]; omega) k
      rw [Hbl.out] at hle
      have hge : j ≤ tp (bl t) j k := Nat.le_trans (nx_ge _ 0 _) (tp_ge _ _ _ 0 (by omega))
      have c2 : wr.cell? ⟨w2.heap.size, tp (bl t) j k + 1, none⟩ = some (.int .i64 (ls (bl t) k (tp (bl t) j k + 1))) := by
        rw [hcs.cell]; exact hrow.row _ (by omega) (by omega)
      have hls := ls_le (bl t) k hk1 (tp (bl t) j k + 1) (by rw [Hbl.out]; omega)
      rw [Hbl.out] at hls
      have hst := ls_step (bl t) k j hk1 (by rw [Hbl.out]; omega)
      have Hst := Lib.hid hst
      have Hsz := Lib.hid hsz
      clear hst hsz
      generalize hp : tp (bl t) j k = p at *
      have Hp := Lib.hid hp
      clear hp
      generalize hq : ls (bl t) k (p + 1) = q at *
      have Hq := Lib.hid hq
      clear hq
      have e1 : IntKind.i64.wrap (1 + (q : Int)) = 1 + (q : Int) := IntWalk.i64_in _ (by omega)
      have e2 : ((p : Int) + 1).toNat = p + 1 := by omega
      have e3 : IntKind.i64.wrap ((p : Int) + 1) = (p : Int) + 1 := IntWalk.i64_in _ (by omega)
      have j1 : (0 : Int) ≤ (p : Int) + 1 := by omega
      have j2 : (p : Int) + 1 < 62 := by omega
      go_wp2_with (go_at_call 45; refine (max_any _ t j k _ hw4 (by omega) ⟨hk1, hk2⟩).mono ?_; rw [Hp.out]; rintro e w' ⟨rfl, rfl⟩)
      go_roundw
      case rel =>
        refine ⟨_, j, rfl, rfl, by omega, hB4.setCell (p := ⟨w2.heap.size, _, none⟩) (by simp) _, _, hcs.set _ _, by rw [Array.size_setIfInBounds]; exact Hsz.out, fun r h1 h2 => ?_⟩
        by_cases hr : r = j
        · subst hr
          rw [Array.getElem?_setIfInBounds_self, if_pos (by rw [Hsz.out]; omega), Hst.out]; congr 2
        · rw [Array.getElem?_setIfInBounds_ne (by omega)]; exact hrow.row r (by omega) h2
      case measure => simp [intOf]

theorem absent_no (t : ByteArray) (k : Int) (w : World) (h : archOk t k = false) : Calls Try.prog 17 #[.string t, .int .i64 k] w (ItemPost ⟨#[]⟩ 2 w) := by
  unfold archOk at h
  cases ht : isW t with
  | false =>
    have Ht := Lib.hid ht
    clear ht h
    go_enter Try.func17, Try.ntmps17
    go_wp2_with fail
    refine (newWord_no t _ Ht.out).mono ?_
    rintro e w1 ⟨rfl, hB1⟩
    go_wp2
    go_ret2
    exact ⟨rfl, hB1.trans ((below_new w1 _).mono hB1.size)⟩
  | true =>
    have Ht := Lib.hid ht
    cases hkr : (decide (1 ≤ k) && decide (k ≤ 4)) with
    | false =>
      have Hkr := Lib.hid hkr
      clear ht h hkr
      go_enter Try.func17, Try.ntmps17
      go_wp2_with fail
      refine (newWord_yes t _ Ht.out).mono ?_
      rintro e w1 ⟨rfl, _, hB1⟩
      go_wp2_with (go_at_call 43; refine (within_any _ _ _ false _ Hkr.out).mono ?_; rintro e w2 ⟨rfl, rfl⟩)
      go_ret2
      exact ⟨rfl, hB1.trans ((below_new w1 _).mono hB1.size)⟩
    | true =>
      have hk : 1 ≤ k ∧ k ≤ 4 := by simpa using hkr
      obtain ⟨k, rfl⟩ : ∃ n : Nat, k = n := ⟨k.toNat, by omega⟩
      have ho : overB (bl t) k = false := by rw [ht, hkr] at h; simpa using h
      have Ho := Lib.hid ho
      have Hkr := Lib.hid hkr
      clear ht h hkr ho
      have Hk : 1 ≤ k ∧ k ≤ 4 := by omega
      clear hk
      go_enter Try.func17, Try.ntmps17
      go_wp2_with fail
      refine (newWord_yes t _ Ht.out).mono ?_
      rintro e w1 ⟨rfl, _, hB1⟩
      go_wp2_with (first | (go_at_call 43; refine (within_any _ _ _ true _ Hkr.out).mono ?_; rintro e w2 ⟨rfl, rfl⟩) | (go_at_call 44; refine (isOver_any t k _ Ht.out Hk).mono ?_; rw [Ho.out]; rintro e w2 ⟨rfl, hB2⟩))
      go_ret2
      exact ⟨rfl, hB1.trans (((below_new w1 _).trans (hB2.mono (by simp))).mono hB1.size)⟩

def Given.thread_Absent.f (w : ByteArray) (k : Int) : Option (ByteArray × Int) :=
  some (if archOk w k = true then (str (ab (bl w) k.toNat (w.size + 1) 0), 0) else (⟨#[]⟩, 2))

theorem Given.thread_Absent.calls (a0 : ByteArray) (a1 : Int) (r1 : ByteArray) (r2 : Int) (w : World) (h : Given.thread_Absent.f a0 a1 = some (r1, r2)) :
    Calls Try.prog 17 #[.string a0, .int .i64 a1] w fun e w' => e = .returned (.tuple #[.string r1, .int .i64 r2]) ∧ Below w.heap.size w w' := by
  show Calls Try.prog 17 #[.string a0, .int .i64 a1] w (ItemPost r1 r2 w)
  unfold Given.thread_Absent.f at h
  cases hu : archOk a0 a1 with
  | false =>
    rw [hu] at h
    obtain ⟨rfl, rfl⟩ : (⟨#[]⟩ : ByteArray) = r1 ∧ (2 : Int) = r2 := by simpa using h
    exact absent_no a0 a1 w hu
  | true =>
    rw [hu, if_pos rfl] at h
    unfold archOk at hu
    simp only [Bool.and_eq_true, decide_eq_true_eq] at hu
    obtain ⟨ht, ⟨h1, h2⟩, ho⟩ := hu
    obtain ⟨k, rfl⟩ : ∃ n : Nat, a1 = n := ⟨a1.toNat, by omega⟩
    obtain ⟨rfl, rfl⟩ : str (ab (bl a0) k (a0.size + 1) 0) = r1 ∧ (0 : Int) = r2 := by simpa using h
    exact absent_walk a0 k w ht (by omega) ho
end Go.Proofs.Ytfjbodaakmapdaa
