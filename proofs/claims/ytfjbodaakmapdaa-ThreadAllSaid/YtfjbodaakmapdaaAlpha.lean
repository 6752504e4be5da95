/-
  thread.alphabet: the iterator's contract: the first k letters, in order; it stops where a round says 'no more'.
-/
import Derived.RangeFuncNested
import Derived.RangeFuncBound
import Derived.RangeFuncCalls
import Derived.RangeFuncLeaves
import Derived.Shelf.Abstract
import Derived.Shelf.RegionOpen
import Derived.WalkKit
import Derived.OwnWalkIn
import Derived.TacticsInMore
import Derived.LoopNIn
import Derived.LoopIn
import Derived.Test.YtfjbodaakmapdaaIndex
import Derived.Test.YtfjbodaakmapdaaRfk
namespace Go.Proofs.Ytfjbodaakmapdaa
open Go.RowKit Go.Shelf Th Kit Go.Proofs.YtfjbodaakmapdaaW.PrintWords
attribute [local go_sem] Oper.semAt_some

theorem IsWord.but {S : Nat → Prop} {w w' : World} {b : Nat} {s : ByteArray} (h : IsWord w b s) (hb : But S w w') (hs : ¬ S b) : IsWord w' b s := by
  obtain ⟨cs, hcs⟩ := h.out
  exact ⟨cs, hcs.blk.but hb hs, hcs.size, hcs.str, hcs.row⟩

/-- The letter number c as a string. -/
abbrev letter (c : Nat) : ByteArray := Utf8.encode (97 + (c : Int))
abbrev aencs (k : Nat) (x : Fin k) : Array Value := #[.int .i64 (x.val : Int), .string (letter x.val)]

set_option maxRecDepth 100000 in
set_option maxHeartbeats 2000000 in
theorem alpha1_in (F : Fence) (n : Nat) (h64 : F.fn 64) (hro : F.round = none) (hn : 1 ≤ n) (l Bk k : Nat) (hk4 : k ≤ 4) (J Jx : List (Fin k) → World → Prop)
    (hY : ∀ pre x W, J pre W → pre.length < k → YieldAt F (n - 1) Try.prog l #[.int .i64 (x.val : Int), .string (Utf8.encode (97 + (x.val : Int)))] W fun e W' =>
      (e = .returned (.bool true) ∧ J (pre ++ [x]) W' ∧ True) ∨ (e = .returned (.bool false) ∧ Jx (pre ++ [x]) W'))
    (W : World) (hB : W.cell? ⟨Bk, 0, none⟩ = some (.int .i64 k)) (h0 : J [] W) :
    CallsIn F n Try.prog 64 #[.func (.yield l) #[] #[], .pointer (some ⟨Bk, 0, none⟩)] W fun e W' => (∃ v, e = .returned v) ∧
      ((∃ ys, ys = List.finRange k ∧ J ys W') ∨ (∃ pre, pre <+: List.finRange k ∧ Jx pre W')) := by
  refine callsIn_of_wp Try.func64 rfl h64 ?_ hro
  simp only [Try.ntmps64, List.size_toArray, List.length_cons, List.length_nil, Nat.reduceAdd, Nat.reduceSub, Array.replicate_succ, Array.replicate_zero, List.push_toArray, List.append_toArray, List.nil_append, List.cons_append]
  gi_wp2
  gi_loopw [5] (fun i wr => ∃ c : Nat, c ≤ k ∧ i = .int .i64 c ∧ Aside0 (J ((List.finRange k).take c) wr)) (fun i _ => k - (intOf i).toNat)
  case atStart => exact ⟨0, Nat.zero_le _, rfl, ⟨by simpa using h0⟩⟩
  case round =>
    obtain ⟨c, hc, rfl, hJs⟩ := hrel
    by_cases hlt : c < k
    · have hts : (List.finRange k).take (c + 1) = (List.finRange k).take c ++ [⟨c, hlt⟩] := by
        rw [List.take_succ_eq_append_getElem (by simpa using hlt)]; simp
      have Hts := Lib.hid hts
      clear hts
      obtain ⟨fn, tmps, assign, body, hy, hR⟩ := hY _ ⟨c, hlt⟩ wr hJs.out (by simp; omega)
      dsimp only at hy
      gi_wp2
      refine hR.mono ?_
      rintro e W3 (⟨rfl, hJ3, hk3⟩ | ⟨rfl, hJx3⟩)
      · gi_wp2
        go_roundw
        case rel => exact ⟨c + 1, by omega, by simp, ⟨by rw [Hts.out]; exact hJ3⟩⟩
        case measure => simp [intOf]; omega
      · gi_wp2
        refine bodyPost_ret (results_none rfl _ _ _) rfl ?_
        exact ⟨⟨_, rfl⟩, .inr ⟨_, List.take_prefix (c + 1) _, by rw [Hts.out]; exact hJx3⟩⟩
    · obtain rfl : c = k := by omega
      have hj := hJs.out
      rw [List.take_of_length_le (by simp)] at hj
      gi_wp2
      go_end0
      exact ⟨⟨_, rfl⟩, .inl ⟨_, rfl, hj⟩⟩

theorem alpha_stops (F : Fence) (n : Nat) (h64 : F.fn 64) (hro : F.round = none) (hn : 1 ≤ n) (Bk k : Nat) (hk4 : k ≤ 4) (w : World) (hBk : Bk < w.heap.size) (hB : w.cell? ⟨Bk, 0, none⟩ = some (.int .i64 k)) :
    SeqStopsK F n Try.prog 64 #[.pointer (some ⟨Bk, 0, none⟩)] (aencs k) (fun _ _ => True) (fun ys => ys = List.finRange k) (fun pre => pre <+: List.finRange k) k w := fun l J Jx W hW _ _ hY h0 =>
  alpha1_in F n h64 hro hn l Bk k hk4 J Jx hY W ((hW.cell (p := ⟨Bk, 0, none⟩) hBk).trans hB) h0

/-- alphabet(k) hands back the iterator over its box. -/
theorem alphabet_in (F : Fence) (n : Nat) (h46 : F.fn 46) (hro : F.round = none) (k : Int) (w : World) :
    CallsIn F n Try.prog 46 #[.int .i64 k] w fun e w' => e = .returned (.func (.func 64) #[] #[.pointer (some ⟨w.heap.size, 0, none⟩)]) ∧ w' = w.alloc (.cells #[.int .i64 k] 3) := by
  refine callsIn_of_wp Try.func46 rfl h46 ?_ hro
  simp only [Try.ntmps46, List.size_toArray, List.length_cons, List.length_nil, Nat.reduceAdd, Nat.reduceSub, Array.replicate_succ, Array.replicate_zero, List.push_toArray, List.append_toArray, List.nil_append, List.cons_append]
  gi_wp2
  go_ret
  exact ⟨rfl, rfl⟩

theorem str_size (l : List Nat) : (str l).size = l.length := by
  show (l.map UInt8.ofNat).toArray.size = _
  simp
theorem str_append (a b : List Nat) : str a ++ str b = str (a ++ b) := by
  apply ByteArray.ext
  simp [str]
theorem letter_eq : ∀ x : Fin 4, letter x.val = str [97 + x.val] := by decide
theorem str_bl (s : ByteArray) : str (bl s) = s := by
  apply ByteArray.ext
  apply Array.ext'
  simp [str, bl, Function.comp_def]
theorem bl_str (l : List Nat) (h : ∀ x ∈ l, x < 256) : bl (str l) = l := by
  unfold bl str
  simp only [List.map_map]
  conv => rhs; rw [← List.map_id l]
  apply List.map_congr_left
  intro x hx
  have := h x hx
  simp
  omega
theorem Kit.Blk.set1 {w : World} {b t : Nat} {v : Value} (h : Blk w b #[v] t) (v' : Value) : Blk (w.setCell ⟨b, 0, none⟩ v') b #[v'] t := h.set 0 v'
theorem Kit.Blk.as {w : World} {b t : Nat} {cs cs' : Array Value} (h : Blk w b cs t) (e : cs = cs') : Blk w b cs' t := e ▸ h
theorem one_int {a b : Int} (h : a = b) : (#[.int .i64 a] : Array Value) = #[.int .i64 b] := by rw [h]

theorem prefix_snoc {k : Nat} {p : List (Fin k)} {x : Fin k} (h : p ++ [x] <+: List.finRange k) : p = (List.finRange k).take x.val := by
  have h1 := List.prefix_iff_eq_take.1 h
  have hl := h.length_le
  simp only [List.length_append, List.length_cons, List.length_nil, List.length_finRange] at h1 hl
  have hts : (List.finRange k).take (p.length + 1) = (List.finRange k).take p.length ++ [⟨p.length, by omega⟩] := by
    rw [List.take_succ_eq_append_getElem (by simp; omega)]; simp
  rw [hts] at h1
  obtain ⟨h2, h3⟩ := List.append_inj' h1 rfl
  simp only [List.cons.injEq, and_true] at h3
  rw [h3]; exact h2

/-- What the first letters add to the count. -/
def smp {n : Nat} (l : List Nat) (pre : List (Fin n)) : Nat := (pre.map fun c => tm l c.val).sum
theorem smp_snoc {n : Nat} (l : List Nat) (pre : List (Fin n)) (x : Fin n) : smp l (pre ++ [x]) = smp l pre + tm l x.val := by simp [smp]
theorem smp_take (l : List Nat) (m : Nat) (hm : m ≤ 4) : smp l ((List.finRange 4).take m) + 1 = pc l m := by
  have e : List.finRange 4 = [0, 1, 2, 3] := by decide
  rw [e]
  rcases (show m = 0 ∨ m = 1 ∨ m = 2 ∨ m = 3 ∨ m = 4 by omega) with rfl | rfl | rfl | rfl | rfl
  · rfl
  · show tm l 0 + 0 + 1 = _; simp only [pc]; omega
  · show tm l 0 + (tm l 1 + 0) + 1 = _; simp only [pc]; omega
  · show tm l 0 + (tm l 1 + (tm l 2 + 0)) + 1 = _; simp only [pc]; omega
  · show tm l 0 + (tm l 1 + (tm l 2 + (tm l 3 + 0))) + 1 = _; simp only [pc]; omega
end Go.Proofs.Ytfjbodaakmapdaa
