/-
  Small laws on blocks that are known whole ('the heap's block b is these cells, none frozen'). No program in sight.
-/
import Derived.WalkKit
import Derived.Deep.MidRow
import Derived.Below
import Derived.Deep.Draws
import Derived.Laws.IdiomStrings
import Derived.WalkSmall
namespace Go.Proofs.Ytfjbodaakmapdaa.Kit
open Go.RowKit

/-- Block b holds the cells cs, of type t; none is frozen. -/
structure Blk (w : World) (b : Nat) (cs : Array Value) (t : TypeId) : Prop where
  out : w.heap[b]? = some (.cells cs t (0, 0))

variable {w w' : World} {b o t : Nat} {cs : Array Value}

theorem Blk.cell (h : Blk w b cs t) (o : Nat) : w.cell? ⟨b, o, none⟩ = cs[o]? := cell_of_row _ _ _ _ _ _ h.out
theorem Blk.frozen (h : Blk w b cs t) (o : Nat) : w.frozen? ⟨b, o, none⟩ = false := frozen_of_row _ _ _ _ _ h.out
theorem Blk.lt (h : Blk w b cs t) : b < w.heap.size := (Array.getElem?_eq_some_iff.1 h.out).1
theorem Blk.set (h : Blk w b cs t) (o : Nat) (v : Value) : Blk (w.setCell ⟨b, o, none⟩ v) b (cs.setIfInBounds o v) t := ⟨heap_setCell_same _ _ _ _ _ _ h.out⟩
theorem Blk.other (h : Blk w b cs t) (p : Addr) (hp : b ≠ p.block) (v : Value) : Blk (w.setCell p v) b cs t := ⟨(Below.heap_setCell w p v b hp).trans h.out⟩
theorem Blk.below {B : Nat} (h : Blk w b cs t) (hb : Below B w w') (hB : b < B) : Blk w' b cs t := ⟨(hb.block b hB).trans h.out⟩
theorem Blk.below' (h : Blk w b cs t) (hb : Below w.heap.size w w') : Blk w' b cs t := h.below hb h.lt
theorem Blk.alloc (h : Blk w b cs t) (x : Obj) : Blk (w.alloc x) b cs t := ⟨(Below.heap_alloc w x b h.lt).trans h.out⟩
theorem Blk.drew (h : Blk w b cs t) : Blk w.drew b cs t := ⟨h.out⟩
theorem Blk.drewN (h : Blk w b cs t) (n : Nat) : Blk (w.drewN n) b cs t := ⟨h.out⟩
theorem Blk.new (w : World) (cs : Array Value) (t : Nat) : Blk (w.alloc (.cells cs t)) w.heap.size cs t := ⟨heap_alloc_new w _⟩
theorem Blk.new2 (w : World) (x : Obj) (cs : Array Value) (t : Nat) : Blk ((w.alloc x).alloc (.cells cs t)) (w.heap.size + 1) cs t := by
  have h := Blk.new (w.alloc x) cs t
  rwa [World.size_alloc] at h
theorem Blk.new3 (w : World) (x y : Obj) (cs : Array Value) (t : Nat) : Blk (((w.alloc x).alloc y).alloc (.cells cs t)) (w.heap.size + 2) cs t := by
  have h := Blk.new ((w.alloc x).alloc y) cs t
  rwa [World.size_alloc, World.size_alloc] at h
theorem below_new (w : World) (x : Obj) : Below w.heap.size w (w.alloc x) := (Below.refl _ _).alloc (Nat.le_refl _) _
theorem below_new2 (w : World) (x y : Obj) : Below w.heap.size w ((w.alloc x).alloc y) := (below_new w x).alloc (by simp) _
theorem below_new3 (w : World) (x y z : Obj) : Below w.heap.size w (((w.alloc x).alloc y).alloc z) := (below_new2 w x y).alloc (by simp; omega) _
theorem Blk.grown {row : Option Nat} (h : Blk w b cs t) (hg : w.grownBy w' row) (hr : some b ≠ row) : Blk w' b cs t := ⟨(hg.block b h.lt hr).trans h.out⟩

/-- cs with the cells vs put in from place o on -/
def put (cs : Array Value) : Nat → List Value → Array Value
  | _, [] => cs
  | o, v :: r => put (cs.setIfInBounds o v) (o + 1) r

theorem put_size : ∀ (vs : List Value) (cs : Array Value) (o : Nat), (put cs o vs).size = cs.size
  | [], _, _ => rfl
  | v :: r, cs, o => by rw [put, put_size r]; simp
theorem put_out : ∀ (vs : List Value) (cs : Array Value) (o i : Nat), (i < o ∨ o + vs.length ≤ i) → (put cs o vs)[i]? = cs[i]?
  | [], _, _, _, _ => rfl
  | v :: r, cs, o, i, h => by
    simp only [List.length_cons] at h
    rw [put, put_out r _ _ _ (by omega), Array.getElem?_setIfInBounds_ne (by omega)]
theorem put_in : ∀ (vs : List Value) (cs : Array Value) (o j : Nat), j < vs.length → o + vs.length ≤ cs.size → (put cs o vs)[o + j]? = vs[j]?
  | v :: r, cs, o, 0, _, hs => by
    simp only [List.length_cons] at hs
    rw [put, put_out r _ _ _ (by omega)]
    simp only [Nat.add_zero, List.getElem?_cons_zero]
    rw [Array.getElem?_setIfInBounds_self, if_pos (by omega)]
  | v :: r, cs, o, j + 1, h, hs => by
    simp only [List.length_cons] at h hs
    rw [put, show o + (j + 1) = o + 1 + j by omega, put_in r _ _ _ (by omega) (by simp; omega)]
    simp

theorem Blk.puts : ∀ (vs : List Value) {w : World} {cs : Array Value} (o : Nat), Blk w b cs t → Blk (w.setCells b o vs) b (put cs o vs) t
  | [], _, _, _, h => h
  | v :: r, w, cs, o, h => by rw [World.setCells, put]; exact Blk.puts r (o + 1) (h.set o v)

theorem below_setCells {B : Nat} : ∀ (vs : List Value) {w1 : World} (o : Nat), B ≤ b → Below B w w1 → Below B w (w1.setCells b o vs)
  | [], _, _, _, h => h
  | v :: r, w1, o, hB, h => by rw [World.setCells]; exact below_setCells r (o + 1) hB (h.setCell (p := ⟨b, o, none⟩) hB v)

theorem Blk.there (h : Blk w b cs t) {n : Nat} (ho : o + n ≤ cs.size) : w.there b o n := fun j hj => by
  refine ⟨?_, h.frozen _⟩
  rw [h.cell, Array.getElem?_eq_getElem (by omega)]; rfl

theorem Blk.range (h : Blk w b cs t) {vs : List Value} (hv : ∀ j v, vs[j]? = some v → cs[o + j]? = some v) : w.rangeAt b o vs := fun j v hj => by
  rw [h.cell]; exact hv j v hj
/-- A whole block overwritten. -/
theorem put_all (z cs : Array Value) (h : z.size = cs.size) : put z 0 cs.toList = cs := by
  apply Array.ext_getElem?
  intro i
  by_cases hi : i < cs.size
  · have := put_in cs.toList z 0 i (by simpa using hi) (by simp; omega)
    rw [Nat.zero_add] at this
    rw [this, Array.getElem?_toList]
  · have h1 : (put z 0 cs.toList).size ≤ i := by rw [put_size]; omega
    rw [Array.getElem?_eq_none h1, Array.getElem?_eq_none (by omega)]

/-- Each cell holds a value of one cell. -/
def OneC (cs : Array Value) : Prop := cs.all (·.oneCell') = true
theorem OneC.set {cs : Array Value} (h : OneC cs) (i : Nat) {v : Value} (hv : v.oneCell' = true) : OneC (cs.setIfInBounds i v) := by
  unfold OneC at *
  rw [Array.all_eq_true_iff_forall_mem] at *
  intro x hx
  rcases Array.mem_or_eq_of_mem_setIfInBounds hx with h1 | h1
  · exact h x h1
  · rw [h1]; exact hv
theorem OneC.put {cs : Array Value} : ∀ (vs : List Value) (o : Nat), OneC cs → (∀ v ∈ vs, v.oneCell' = true) → OneC (put cs o vs)
  | [], _, h, _ => h
  | v :: r, o, h, hv => OneC.put r (o + 1) (h.set o (hv v (by simp))) (fun x hx => hv x (by simp [hx]))

theorem cell_alloc_mark (w : World) (cs : Array Value) (t : TypeId) (fr : Nat × Nat) (j : Nat) : (w.alloc (.cells cs t fr)).cell? ⟨w.heap.size, j, none⟩ = cs[j]? := by
  have h : (w.alloc (.cells cs t fr)).heap[w.heap.size]? = some (.cells cs t fr) := heap_alloc_new w _
  rw [cell_of_row _ _ _ _ _ _ h]

theorem bytesRow_get (s : ByteArray) (cap k : Nat) (hk : k < s.size) : (bytesRow s cap)[k]? = some (.int .u8 (s[k].toNat : Int)) := by
  have hk' : k < s.data.size := hk
  unfold bytesRow
  rw [Array.getElem?_append_left (by simpa using hk'), Array.getElem?_map, Array.getElem?_eq_getElem hk']
  rfl

/-- '[]byte(s)': the world behind it by name. -/
theorem wpList_bytes {P : Program} {ops : Array Oper} {rest : List Oper} {o : Oper} {a : Act} {w : World} {Q : Exit → Act → World → Prop} (hgd : o.guard = none) (src dst e : TypeId) (x : Operand) (ho : o.op = .convert src dst x)
    (s : ByteArray) (hx : a.eval x = .string s) (hs : P.underlying src = some .string) (hd : P.underlying dst = some (.slice e)) (he : P.underlying e = some (.int .u8))
    (h : ∀ (w' : World) (cap : Nat), Below w.heap.size w w' → w.heap.size < w'.heap.size → (∀ k (hk : k < s.size), w'.cell? ⟨w.heap.size, k, none⟩ = some (.int .u8 (s[k].toNat : Int))) →
      wpList P ops Q rest (a.put o.dst (.slice (some ⟨w.heap.size, 0, none⟩) s.size cap)) w') : wpList P ops Q (o :: rest) a w := by
  refine wpList_plain hgd fun K hK => ?_
  unfold Oper.wp execOp
  simp only [ho, hx, Sem.run_bind, Sem.run_pure, Result.andThen_ok, run_bytes_of_string w src dst e s hs hd he]
  refine hK _ _ (h _ _ ?_ ?_ ?_)
  · exact ((Below.refl _ w).drew).alloc (Nat.le_refl _) _
  · rw [World.size_alloc]; exact Nat.lt_succ_self _
  · intro k hk
    exact (cell_alloc_mark w.drew _ e _ k).trans (bytesRow_get s _ k hk)

/-- A whole array stored into the block that was just made: the world behind it by name. -/
theorem wpList_store_new {P : Program} {ops : Array Oper} {rest : List Oper} {o : Oper} {a : Act} {w : World} {Q : Exit → Act → World → Prop} (hgd : o.guard = none) (ty : TypeId) (x y : Operand) (ho : o.op = .store ty x y)
    (W : World) (z : Array Value) (e : TypeId) (cells : Array Value) (hw : w = W.alloc (.cells z e)) (hx : a.eval x = .pointer (some ⟨W.heap.size, 0, none⟩)) (hy : a.eval y = .agg cells)
    (hz : z.size = cells.size) (hi : (P.info? ty).map (·.size) = some cells.size) (h1 : OneC cells)
    (h : ∀ w' : World, Below W.heap.size W w' → W.heap.size < w'.heap.size → Blk w' W.heap.size cells e → wpList P ops Q rest (a.put o.dst undef) w') : wpList P ops Q (o :: rest) a w := by
  subst hw
  have hb := Blk.new W z e
  refine wpList_store_mid hgd ty x y ho W.heap.size 0 cells hx hy (hb.there (by omega)) hi h1 ?_
  have hb2 := hb.puts cells.toList 0
  rw [put_all _ _ hz] at hb2
  exact h _ (below_setCells _ _ (Nat.le_refl _) (below_new W _)) hb2.lt hb2
end Go.Proofs.Ytfjbodaakmapdaa.Kit
