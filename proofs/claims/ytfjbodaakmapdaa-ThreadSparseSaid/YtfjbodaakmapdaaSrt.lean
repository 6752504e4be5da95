/-
  The contracts of byLength and of what it calls.
-/
import Derived.Test.YtfjbodaakmapdaaTb
import Derived.Test.YtfjbodaakmapdaaTc
import Derived.Laws.Cover1
import Derived.Shelf.SlSortCmp.Insertion1
namespace Go.Proofs.Ytfjbodaakmapdaa
open Go.RowKit Go.Shelf Th Kit

/-- cmp.Compare at strings. -/
def cS (x y : ByteArray) : Int := if Op.bytesLess x.toList y.toList = true then -1 else if (x.toList == y.toList) = true then 0 else 1
def cI (x y : Int) : Int := if x < y then -1 else if y < x then 1 else 0
def blC (x y : ByteArray) : Int := if cI x.size y.size ≠ 0 then cI x.size y.size else cS x y

theorem cmpInt_any (x y : Int) (w : World) : Calls Try.prog 69 #[.int .i64 x, .int .i64 y] w fun e w' => e = .returned (.int .i64 (cI x y)) ∧ w = w' := by
  unfold cI
  by_cases h1 : x < y
  · rw [if_pos h1]
    go_enter Try.func69, Try.ntmps69
    go_wp2
    go_ret
    exact ⟨rfl, rfl⟩
  · rw [if_neg h1]
    by_cases h2 : y < x
    · rw [if_pos h2]
      go_enter Try.func69, Try.ntmps69
      go_wp2
      go_ret
      exact ⟨rfl, rfl⟩
    · rw [if_neg h2]
      go_enter Try.func69, Try.ntmps69
      go_wp2
      go_ret
      exact ⟨rfl, rfl⟩
theorem cmpStr_any (x y : ByteArray) (w : World) : Calls Try.prog 70 #[.string x, .string y] w fun e w' => e = .returned (.int .i64 (cS x y)) ∧ w = w' := by
  unfold cS
  cases h1 : Op.bytesLess x.toList y.toList with
  | true =>
    rw [if_pos rfl]
    go_enter Try.func70, Try.ntmps70
    go_wp2
    go_ret
    exact ⟨rfl, rfl⟩
  | false =>
    rw [if_neg (by simp)]
    cases h2 : (x.toList == y.toList) with
    | true =>
      rw [if_pos rfl]
      go_enter Try.func70, Try.ntmps70
      go_wp2
      go_ret
      exact ⟨rfl, rfl⟩
    | false =>
      rw [if_neg (by simp)]
      go_enter Try.func70, Try.ntmps70
      go_wp2
      go_ret
      exact ⟨rfl, rfl⟩

theorem cmpOr_any (b : Nat) (c d : Int) (w : World) (h0 : w.cell? ⟨b, 0, none⟩ = some (.int .i64 c)) (h1 : w.cell? ⟨b, 1, none⟩ = some (.int .i64 d)) : Calls Try.prog 68 #[.slice (some ⟨b, 0, none⟩) 2 2] w fun e w' => e = .returned (.int .i64 (if c ≠ 0 then c else d)) ∧ w = w' := by
  by_cases hc : c = 0
  · subst hc
    rw [if_neg (by simp)]
    by_cases hd : d = 0
    · subst hd
      go_enter Try.func68, Try.ntmps68
      go_wp2
      go_loop [8] (fun v => ∃ k : Nat, v = .int .i64 k ∧ k ≤ 2) (fun v => 2 - (intOf v).toNat)
      case atStart => exact ⟨0, rfl, Nat.zero_le _⟩
      case round =>
        obtain ⟨k, rfl, hk⟩ := hrel
        rcases (show k = 0 ∨ k = 1 ∨ k = 2 by omega) with rfl | rfl | rfl
        · go_wp2
          go_round
          case rel => exact ⟨1, rfl, by omega⟩
          case measure => simp [intOf]
        · go_wp2
          go_round
          case rel => exact ⟨2, rfl, by omega⟩
          case measure => simp [intOf]
        · go_wp2
          go_ret
          exact ⟨rfl, rfl⟩
    · have hd' : (d == 0) = false := beq_eq_false_iff_ne.2 hd
      have hd2 : (d != 0) = true := bne_iff_ne.2 hd
      go_enter Try.func68, Try.ntmps68
      go_wp2
      go_loop [8] (fun v => ∃ k : Nat, v = .int .i64 k ∧ k ≤ 1) (fun v => 2 - (intOf v).toNat)
      case atStart => exact ⟨0, rfl, Nat.zero_le _⟩
      case round =>
        obtain ⟨k, rfl, hk⟩ := hrel
        rcases (show k = 0 ∨ k = 1 by omega) with rfl | rfl
        · go_wp2
          go_round
          case rel => exact ⟨1, rfl, by omega⟩
          case measure => simp [intOf]
        · go_wp2
          go_ret
          exact ⟨rfl, rfl⟩
  · rw [if_pos hc]
    have hd' : (c == 0) = false := beq_eq_false_iff_ne.2 hc
    have hd2 : (c != 0) = true := bne_iff_ne.2 hc
    go_enter Try.func68, Try.ntmps68
    go_wp2
    go_loop [8] (fun v => v = .int .i64 0) (fun v => 2 - (intOf v).toNat)
    case atStart => rfl
    case round =>
      obtain rfl := hrel
      go_wp2
      go_ret
      exact ⟨rfl, rfl⟩

set_option maxHeartbeats 1000000 in
theorem byLength_any (x y : ByteArray) (w : World) : Calls Try.prog 55 #[.string x, .string y] w fun e w' => e = .returned (.int .i64 (blC x y)) ∧ ∃ o, w' = w.alloc o := by
  unfold blC
  generalize hc : cI x.size y.size = c
  have hci := cmpInt_any x.size y.size w
  rw [hc] at hci
  have hcs := cmpStr_any x y w
  generalize cS x y = d at hcs ⊢
  clear hc
  have hblk := Blk.new w #[.int .i64 c, .int .i64 d] 3
  have hor := cmpOr_any w.heap.size c d _ (hblk.cell 0) (hblk.cell 1)
  generalize (if c ≠ 0 then c else d) = v at hor ⊢
  go_enter Try.func55, Try.ntmps55
  go_wp2_with (first | (go_at_call 69; refine hci.mono ?_; rintro e w' ⟨rfl, rfl⟩) | (go_at_call 70; refine hcs.mono ?_; rintro e w' ⟨rfl, rfl⟩) | (go_at_call 68; refine hor.mono ?_; rintro e w' ⟨rfl, rfl⟩))
  go_ret
  exact ⟨rfl, _, rfl⟩
end Go.Proofs.Ytfjbodaakmapdaa
