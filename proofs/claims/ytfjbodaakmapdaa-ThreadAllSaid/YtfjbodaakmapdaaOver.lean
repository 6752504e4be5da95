/-
  The walks of thread.isOver (over strings.ContainsFunc) and slices.Max over a word's row.
-/
import Derived.Test.YtfjbodaakmapdaaItem
namespace Go.Proofs.Ytfjbodaakmapdaa
open Go.RowKit Th Kit Go.Proofs.YtfjbodaakmapdaaW.PrintWords

theorem over1_any (r k : Int) (b : Nat) (q : Bool) (w : World) (hr : 97 ≤ r ∧ r ≤ 100) (hk : 1 ≤ k ∧ k ≤ 4) (hc : w.cell? ⟨b, 0, none⟩ = some (.int .i64 k)) (hq : decide (97 + k ≤ r) = q) :
    Calls Try.prog 63 #[.int .i32 r, .pointer (some ⟨b, 0, none⟩)] w fun e w' => e = .returned (.bool q) ∧ w = w' := by
  obtain ⟨h1, h2⟩ := hr
  obtain ⟨h3, h4⟩ := hk
  go_enter Try.func63, Try.ntmps63
  cases q with
  | true =>
    have h := of_decide_eq_true hq
    have Hq := Lib.hid hq
    clear hq
    go_wp2_with (go_at_call 43; refine (within_any _ _ _ false _ (by simp; omega)).mono ?_; rintro e w' ⟨rfl, rfl⟩)
    go_ret
    exact ⟨rfl, rfl⟩
  | false =>
    have h := of_decide_eq_false hq
    have Hq := Lib.hid hq
    clear hq
    go_wp2_with (go_at_call 43; refine (within_any _ _ _ true _ (by simp; omega)).mono ?_; rintro e w' ⟨rfl, rfl⟩)
    go_ret
    exact ⟨rfl, rfl⟩

/-- All letters are among the first k. -/
def overB (l : List Nat) (k : Nat) : Bool := l.all fun x => decide (x < 97 + k)
theorem overB_iff (s : ByteArray) (k : Nat) : overB (bl s) k = true ↔ ∀ i (h : i < s.size), s[i].toNat < 97 + k := by
  simp only [overB, List.all_eq_true, decide_eq_true_eq]
  refine ⟨fun h i hi => ?_, fun h x hx => ?_⟩
  · have := h ((bl s)[i]'(by rw [bl_len]; exact hi)) (List.getElem_mem _)
    rwa [bl_get] at this
  · obtain ⟨i, hi, rfl⟩ := List.getElem_of_mem hx
    rw [bl_len] at hi
    rw [bl_get s i hi]
    exact h i hi

def IdxPost (s : ByteArray) (k : Nat) (w : World) (e : Ending) (w' : World) : Prop := ∃ r : Int, e = .returned (.int .i64 r) ∧ decide (0 ≤ r) = !overB (bl s) k ∧ -1 ≤ r ∧ r ≤ 60 ∧ Below w.heap.size w w'

set_option maxRecDepth 100000 in
set_option maxHeartbeats 1000000 in
theorem idx1_any (s : ByteArray) (k b : Nat) (w : World) (hs : isW s = true) (hk : 1 ≤ k ∧ k ≤ 4) (hc : w.cell? ⟨b, 0, none⟩ = some (.int .i64 k)) :
    Calls Try.prog 86 #[.string s, .func (.func 63) #[] #[.pointer (some ⟨b, 0, none⟩)], .bool true] w (IdxPost s k w) := by
  obtain ⟨h60, hl⟩ := (isW_iff s).1 hs
  have Hl := Lib.hid hl
  have Hs := Lib.hid hs
  have hb : b < w.heap.size := by
    by_cases h : b < w.heap.size
    · exact h
    · unfold World.cell? at hc; rw [Array.getElem?_eq_none (by simpa using h)] at hc; cases hc
  clear hl hs
  go_enter Try.func86, Try.ntmps86
  go_wp2
  go_loopw [11] (fun _ wr => ∃ (pos : Nat), wr = w.iter s pos ∧ pos ≤ s.size ∧ ∀ i (h : i < s.size), i < pos → s[i].toNat < 97 + k) (fun _ wr => s.size - wr.iterPos w.heap.size)
  case atStart => exact ⟨0, rfl, Nat.zero_le _, fun i h h' => by omega⟩
  case round =>
    obtain ⟨pos, rfl, hp, hov⟩ := hrel
    have Hov := Lib.hid hov
    clear hov
    by_cases hlt : pos < s.size
    · obtain ⟨h97, h100⟩ := Hl.out pos hlt
      have hnx : ∀ ty, (Instr.next (.pointer (some ⟨w.heap.size, 0, none⟩)) true ty).run Try.prog (w.iter s pos) = _ := fun ty => run_next_ascii w s pos ty hlt (by omega)
      have hc2 : (w.iter s (pos + 1)).cell? ⟨b, 0, none⟩ = some (.int .i64 k) := ((below_new w (.stringIter s (pos + 1))).cell (p := ⟨b, 0, none⟩) hb).trans hc
      by_cases hv : s[pos].toNat < 97 + k
      · go_wp2_with (go_at_call 63; refine (over1_any _ _ b false _ (by omega) (by omega) hc2 (by simp; omega)).mono ?_; rintro e w' ⟨rfl, rfl⟩)
        go_roundw
        case rel =>
          refine ⟨pos + 1, rfl, by omega, fun i h h' => ?_⟩
          by_cases hi : i = pos
          · subst hi; exact hv
          · exact Hov.out i h (by omega)
        case measure => simp; omega
      · go_wp2_with (go_at_call 63; refine (over1_any _ _ b true _ (by omega) (by omega) hc2 (by simp; omega)).mono ?_; rintro e w' ⟨rfl, rfl⟩)
        go_ret
        refine ⟨pos, rfl, ?_, by omega, by omega, below_new w _⟩
        have hno : overB (bl s) k = false := by
          rw [Bool.eq_false_iff, ne_eq, overB_iff]
          exact fun h => hv (h pos hlt)
        rw [hno]; simp
    · have hnx : ∀ ty, (Instr.next (.pointer (some ⟨w.heap.size, 0, none⟩)) true ty).run Try.prog (w.iter s pos) = _ := fun ty => run_next_end w s pos ty hlt
      go_wp2
      go_ret
      refine ⟨-1, rfl, ?_, by omega, by omega, below_new w _⟩
      have hyes : overB (bl s) k = true := (overB_iff s k).2 fun i h => Hov.out i h (by omega)
      rw [hyes]; rfl

theorem isOver_any (s : ByteArray) (k : Nat) (w : World) (hs : isW s = true) (hk : 1 ≤ k ∧ k ≤ 4) :
    Calls Try.prog 44 #[.string s, .int .i64 k] w fun e w' => e = .returned (.bool (overB (bl s) k)) ∧ Below w.heap.size w w' := by
  have Hs := Lib.hid hs
  clear hs
  obtain ⟨hk1, hk2⟩ := hk
  have hb := Blk.new w #[.int .i64 k] 3
  have hc := hb.cell 0
  simp only [List.getElem?_toArray, List.getElem?_cons_zero] at hc
  have Hc := Lib.hid hc
  clear hb hc
  go_enter Try.func44, Try.ntmps44
  go_wp2_with (first | (go_at_call 86; refine (idx1_any s k w.heap.size _ Hs.out ⟨hk1, hk2⟩ Hc.out).mono ?_; rintro e w' ⟨r, rfl, h1, h2, h3, hB⟩) | go_in)
  go_ret
  exact ⟨rfl, (below_new w _).trans (hB.mono (by simp))⟩
end Go.Proofs.Ytfjbodaakmapdaa
