/-
  The walks of thread.isFamily (over slices.ContainsFunc) and slices.Contains.
-/
import Derived.Test.YtfjbodaakmapdaaSame
namespace Go.Proofs.Ytfjbodaakmapdaa
open Go.RowKit Go.Shelf Th Kit Go.Proofs.YtfjbodaakmapdaaW.PrintWords

/-- A row of strings that is read. -/
structure SR (w : World) (A : Option Addr) (l : List ByteArray) : Prop where
  max : l.length ≤ 9223372036854775807
  at_ : ∀ i s, l[i]? = some s → ∃ ad, A = some ad ∧ w.cell? (ad.add i) = some (.string s)
theorem SR.of (w : World) (A : Option Addr) (l : List ByteArray) (h : Kd.C Kd.string w A l.length l) : SR w A l :=
  ⟨h.2.1, fun i s hi => by
    have hlt := (List.getElem?_eq_some_iff.1 hi).1
    obtain ⟨ad, e, hc⟩ := h.2.2 (by omega)
    obtain ⟨c, hl, hk, hcell⟩ := hc i s hi
    have hk' : c = [.string s] := hk
    subst hk'
    have := hcell 0 _ rfl
    refine ⟨ad, e, ?_⟩
    have hsz : i * Kd.string.sz + 0 = i := by show i * 1 + 0 = i; omega
    rw [hsz] at this
    exact this⟩
theorem SR.below {w w' : World} {A : Option Addr} {l : List ByteArray} (h : SR w A l) (hb : Below w.heap.size w w') : SR w' A l :=
  ⟨h.max, fun i s hi => by
    obtain ⟨ad, e, hc⟩ := h.at_ i s hi
    refine ⟨ad, e, ?_⟩
    have hlt : (ad.add i).block < w.heap.size := by
      by_cases hh : (ad.add i).block < w.heap.size
      · exact hh
      · unfold World.cell? at hc; rw [Array.getElem?_eq_none (by omega)] at hc; cases hc
    exact (hb.cell hlt).trans hc⟩

/-- A string that belongs to no family. -/
def badW (s : ByteArray) : Bool := !isW s || decide (8 < s.size)
def isFam (l : List ByteArray) : Bool := decide (l.length ≤ 4) && !(l.any badW)

theorem bad_any (s : ByteArray) (w : World) : Calls Try.prog 65 #[.string s] w fun e w' => e = .returned (.bool (badW s)) ∧ Below w.heap.size w w' := by
  cases hu : isW s with
  | false =>
    have Hu := Lib.hid hu
    clear hu
    go_enter Try.func65, Try.ntmps65
    go_wp2_with fail
    refine (newWord_no s _ Hu.out).mono ?_
    rintro e w1 ⟨rfl, hB1⟩
    go_wp2
    go_ret
    exact ⟨by unfold badW; rw [Hu.out]; rfl, hB1⟩
  | true =>
    have Hu := Lib.hid hu
    clear hu
    go_enter Try.func65, Try.ntmps65
    go_wp2_with fail
    refine (newWord_yes s _ Hu.out).mono ?_
    rintro e w1 ⟨rfl, _, hB1⟩
    go_wp2
    go_ret
    exact ⟨by unfold badW; rw [Hu.out]; simp; omega, hB1⟩

theorem idxBad_any (A : Option Addr) (c : Nat) (l : List ByteArray) (w : World) (hr : SR w A l) : Calls Try.prog 71 #[.slice A l.length c, .func (.func 65) #[] #[]] w fun e w' => ∃ i : Int, e = .returned (.int .i64 i) ∧ decide (0 ≤ i) = l.any badW ∧ -1 ≤ i ∧ i ≤ 9223372036854775807 ∧ Below w.heap.size w w' := by
  have hmax := hr.max
  go_enter Try.func71, Try.ntmps71
  go_wp2
  go_loopw [8] (fun v wr => ∃ k : Nat, v = .int .i64 k ∧ k ≤ l.length ∧ Aside0 ((l.take k).any badW = false) ∧ Aside0 (Below w.heap.size w wr)) (fun v _ => l.length - (intOf v).toNat)
  case atStart => exact ⟨0, rfl, Nat.zero_le _, ⟨rfl⟩, ⟨Below.refl _ _⟩⟩
  case round =>
    obtain ⟨k, rfl, hk, HT, HB⟩ := hrel
    by_cases hlt : k < l.length
    · obtain ⟨s, hs⟩ : ∃ s, l[k]? = some s := ⟨_, List.getElem?_eq_getElem hlt⟩
      obtain ⟨ad, rfl, hc⟩ := (hr.below HB.out).at_ k s hs
      have Hs := Lib.hid hs
      have hsmax : s.size ≤ 9223372036854775807 ∨ True := .inr trivial
      have hts : l.take (k + 1) = l.take k ++ [s] := by rw [List.take_add_one, hs]; rfl
      have Hts := Lib.hid hts
      clear hs hts hsmax
      cases hbad : badW s with
      | true =>
        have Hbad := Lib.hid hbad
        clear hbad
        go_wp2_with (go_at_call 65; refine (bad_any s _).mono ?_; rw [Hbad.out]; rintro e w' ⟨rfl, hB2⟩)
        go_ret
        have hany : l.any badW = true := List.any_eq_true.2 ⟨s, List.mem_of_getElem? Hs.out, Hbad.out⟩
        exact ⟨k, rfl, by rw [hany]; simp, by omega, by omega, HB.out.trans (hB2.mono HB.out.size)⟩
      | false =>
        have Hbad := Lib.hid hbad
        clear hbad
        go_wp2_with (go_at_call 65; refine (bad_any s _).mono ?_; rw [Hbad.out]; rintro e w' ⟨rfl, hB2⟩)
        go_roundw
        case rel => exact ⟨k + 1, by go_num, by omega, ⟨by rw [Hts.out, List.any_append, HT.out]; simp [Hbad.out]⟩, ⟨HB.out.trans (hB2.mono HB.out.size)⟩⟩
        case measure => simp [intOf]; omega
    · obtain rfl : k = l.length := by omega
      go_wp2
      go_ret
      have hany := HT.out
      rw [List.take_length] at hany
      exact ⟨-1, rfl, by rw [hany]; rfl, by omega, by omega, HB.out⟩

theorem isFamily_any (A : Option Addr) (c : Nat) (l : List ByteArray) (w : World) (hr : SR w A l) : Calls Try.prog 52 #[.slice A l.length c] w fun e w' => e = .returned (.bool (isFam l)) ∧ Below w.heap.size w w' := by
  have hmax := hr.max
  by_cases h4 : l.length ≤ 4
  · have h4' : (l.length : Int) ≤ 4 := by omega
    go_enter Try.func52, Try.ntmps52
    go_wp2_with (first | (go_at_call 71; refine (idxBad_any A c l _ hr).mono ?_; rintro e w' ⟨i, rfl, hi, hi1, hi2, hB2⟩) | go_in)
    go_ret
    exact ⟨by unfold isFam; simp [h4], hB2⟩
  · have h4' : ¬ (l.length : Int) ≤ 4 := by omega
    go_enter Try.func52, Try.ntmps52
    go_wp2
    go_ret
    exact ⟨by unfold isFam; simp [h4], Below.refl _ _⟩

def hasEmpty (l : List ByteArray) : Bool := l.any fun s => decide (s.size = 0)
theorem empty_of {s : ByteArray} (h : s.size = 0) : s = ⟨#[]⟩ := ByteArray.ext (Array.eq_empty_of_size_eq_zero h)

theorem notEmpty {s : ByteArray} (h : ¬ s.size = 0) : s.toList.isEmpty = false := by
  rw [ByteArray.toList_eq, List.isEmpty_eq_false_iff]
  intro e
  exact h (by show s.data.size = 0; rw [← Array.length_toList, e]; rfl)

theorem idxEmpty_any (A : Option Addr) (c : Nat) (l : List ByteArray) (w : World) (hr : SR w A l) : Calls Try.prog 72 #[.slice A l.length c, .string ⟨#[]⟩] w fun e w' => ∃ i : Int, e = .returned (.int .i64 i) ∧ decide (0 ≤ i) = hasEmpty l ∧ -1 ≤ i ∧ i ≤ 9223372036854775807 ∧ w = w' := by
  have hmax := hr.max
  go_enter Try.func72, Try.ntmps72
  go_wp2
  go_loopw [8] (fun v wr => ∃ k : Nat, v = .int .i64 k ∧ k ≤ l.length ∧ Aside0 (hasEmpty (l.take k) = false) ∧ wr = w) (fun v _ => l.length - (intOf v).toNat)
  case atStart => exact ⟨0, rfl, Nat.zero_le _, ⟨rfl⟩, rfl⟩
  case round =>
    obtain ⟨k, rfl, hk, HT, rfl⟩ := hrel
    by_cases hlt : k < l.length
    · obtain ⟨s, hs⟩ : ∃ s, l[k]? = some s := ⟨_, List.getElem?_eq_getElem hlt⟩
      obtain ⟨ad, rfl, hc⟩ := hr.at_ k s hs
      have Hs := Lib.hid hs
      have hts : l.take (k + 1) = l.take k ++ [s] := by rw [List.take_add_one, hs]; rfl
      have Hts := Lib.hid hts
      clear hs hts
      by_cases he : s.size = 0
      · obtain rfl := empty_of he
        clear he
        go_wp2
        go_ret
        have hany : hasEmpty l = true := List.any_eq_true.2 ⟨_, List.mem_of_getElem? Hs.out, rfl⟩
        exact ⟨k, rfl, by rw [hany]; simp, by omega, by omega, rfl⟩
      · have heq : s.toList.isEmpty = false := notEmpty he
        have He := Lib.hid he
        clear he
        go_wp2
        go_roundw
        case rel =>
          refine ⟨k + 1, by go_num, by omega, ⟨?_⟩, trivial⟩
          have h1 := HT.out
          unfold hasEmpty at h1 ⊢
          have h2 : decide (s.size = 0) = false := decide_eq_false He.out
          rw [Hts.out, List.any_append, h1, List.any_cons, h2]; rfl
        case measure => simp [intOf]; omega
    · obtain rfl : k = l.length := by omega
      go_wp2
      go_ret
      have hany := HT.out
      rw [List.take_length] at hany
      exact ⟨-1, rfl, by rw [hany]; rfl, by omega, by omega, rfl⟩

theorem contains_any (A : Option Addr) (c : Nat) (l : List ByteArray) (w : World) (hr : SR w A l) : Calls Try.prog 59 #[.slice A l.length c, .string ⟨#[]⟩] w fun e w' => e = .returned (.bool (hasEmpty l)) ∧ w = w' := by
  go_enter Try.func59, Try.ntmps59
  go_wp2_with fail
  refine (idxEmpty_any A c l _ hr).mono ?_
  rintro e w' ⟨i, rfl, hi, hi1, hi2, rfl⟩
  go_wp2
  go_ret
  rw [← hi]
  exact ⟨rfl, rfl⟩
end Go.Proofs.Ytfjbodaakmapdaa
