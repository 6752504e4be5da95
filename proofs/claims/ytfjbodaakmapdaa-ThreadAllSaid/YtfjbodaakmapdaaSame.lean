/-
  The contracts of thread.Differ and thread.Same.
-/
import Derived.Test.YtfjbodaakmapdaaDifW
namespace Go.Proofs.Ytfjbodaakmapdaa
open Go.RowKit Go.Shelf Th Kit Go.Proofs.YtfjbodaakmapdaaW.PrintWords

/-- The first word that tells two words apart. -/
def dw (x y : List Nat) : List Nat := dbfs x y 3722 0 [((0, 0), [])]

theorem toList_ne {a b : ByteArray} (h : ¬ a = b) : (a.toList == b.toList) = false := by
  rw [beq_eq_false_iff_ne]
  intro e
  apply h
  apply ByteArray.ext
  apply Array.ext'
  simpa [ByteArray.toList_eq] using e

namespace Given
def thread_Differ.f (u w : ByteArray) : Option (ByteArray × Int) :=
  some (if isW u = true then (if isW w = true then (if u = w then (⟨#[]⟩, 6) else (str (dw (bl u) (bl w)), 0)) else (⟨#[]⟩, 2)) else (⟨#[]⟩, 2))
def thread_Same.f (u w : ByteArray) (n : Int) : Option (Bool × Int) :=
  some (if isW u = true then (if isW w = true then (if n < 0 then (false, 2) else (if u = w then (true, 0) else (decide (n < (dw (bl u) (bl w)).length), 0))) else (false, 2)) else (false, 2))
end Given

theorem differ_no1 (u t : ByteArray) (w : World) (hu : isW u = false) : Calls Try.prog 27 #[.string u, .string t] w (ItemPost ⟨#[]⟩ 2 w) := by
  have Hu := Lib.hid hu
  clear hu
  go_enter Try.func27, Try.ntmps27
  go_wp2_with fail
  refine (newWord_no u _ Hu.out).mono ?_
  rintro e w1 ⟨rfl, hB1⟩
  go_wp2_with fail
  refine (newWord_any t _).mono ?_
  rintro e w2 ⟨hB2, ⟨_, rfl, _⟩ | ⟨_, rfl⟩⟩
  · go_wp2
    go_ret2
    exact ⟨rfl, hB1.trans (hB2.mono hB1.size)⟩
  · go_wp2
    go_ret2
    exact ⟨rfl, hB1.trans (hB2.mono hB1.size)⟩

theorem differ_no2 (u t : ByteArray) (w : World) (hu : isW u = true) (ht : isW t = false) : Calls Try.prog 27 #[.string u, .string t] w (ItemPost ⟨#[]⟩ 2 w) := by
  have Hu := Lib.hid hu
  have Ht := Lib.hid ht
  clear hu ht
  go_enter Try.func27, Try.ntmps27
  go_wp2_with fail
  refine (newWord_yes u _ Hu.out).mono ?_
  rintro e w1 ⟨rfl, _, hB1⟩
  go_wp2_with fail
  refine (newWord_no t _ Ht.out).mono ?_
  rintro e w2 ⟨rfl, hB2⟩
  go_wp2
  go_ret2
  exact ⟨rfl, hB1.trans (hB2.mono hB1.size)⟩

theorem differ_yes (u t : ByteArray) (w : World) (hu : isW u = true) (ht : isW t = true) (r1 : ByteArray) (r2 : Int) (hr : (if u = t then ((⟨#[]⟩ : ByteArray), (6 : Int)) else (str (dw (bl u) (bl t)), 0)) = (r1, r2)) :
    Calls Try.prog 27 #[.string u, .string t] w (ItemPost r1 r2 w) := by
  obtain ⟨hu60, _⟩ := (isW_iff u).1 hu
  obtain ⟨ht60, _⟩ := (isW_iff t).1 ht
  have Hu := Lib.hid hu
  have Ht := Lib.hid ht
  have Hr := Lib.hid hr
  clear hu ht hr
  go_enter Try.func27, Try.ntmps27
  go_wp2_with fail
  refine (newWord_yes u _ Hu.out).mono ?_
  rintro e w1 ⟨rfl, hw1, hB1⟩
  go_wp2_with fail
  refine (newWord_yes t _ Ht.out).mono ?_
  rintro e w2 ⟨rfl, hw2, hB2⟩
  have hw1' := hw1.below hB2
  have hB := hB1.trans (hB2.mono hB1.size)
  clear hw1 hB1 hB2
  by_cases he : u = t
  · subst he
    have h := Hr.out
    rw [if_pos rfl] at h
    obtain ⟨rfl, rfl⟩ := Prod.mk.inj h
    clear h Hr
    go_wp2
    go_ret2
    exact ⟨rfl, hB⟩
  · have hne := toList_ne he
    have h := Hr.out
    rw [if_neg he] at h
    obtain ⟨rfl, rfl⟩ := Prod.mk.inj h
    clear h Hr he
    go_wp2_with fail
    refine (differ_any _ _ u t _ hw1' hw2 hu60 ht60).mono ?_
    rintro e w3 ⟨rfl, hB3⟩
    have hB4 := hB.trans (hB3.mono hB.size)
    clear hw1' hw2 hB hB3
    go_wp2
    go_ret2
    exact ⟨rfl, hB4⟩

theorem Given.thread_Differ.calls (a0 a1 : ByteArray) (r1 : ByteArray) (r2 : Int) (w : World) (h : Given.thread_Differ.f a0 a1 = some (r1, r2)) :
    Calls Try.prog 27 #[.string a0, .string a1] w fun e w' => e = .returned (.tuple #[.string r1, .int .i64 r2]) ∧ Below w.heap.size w w' := by
  show Calls Try.prog 27 #[.string a0, .string a1] w (ItemPost r1 r2 w)
  unfold Given.thread_Differ.f at h
  cases hu : isW a0 with
  | false =>
    rw [hu] at h
    obtain ⟨rfl, rfl⟩ : (⟨#[]⟩ : ByteArray) = r1 ∧ (2 : Int) = r2 := by simpa using h
    exact differ_no1 a0 a1 w hu
  | true =>
    cases ht : isW a1 with
    | false =>
      rw [hu, ht] at h
      obtain ⟨rfl, rfl⟩ : (⟨#[]⟩ : ByteArray) = r1 ∧ (2 : Int) = r2 := by simpa using h
      exact differ_no2 a0 a1 w hu ht
    | true =>
      rw [hu, ht, if_pos rfl, if_pos rfl] at h
      exact differ_yes a0 a1 w hu ht r1 r2 (Option.some.inj h)
end Go.Proofs.Ytfjbodaakmapdaa
