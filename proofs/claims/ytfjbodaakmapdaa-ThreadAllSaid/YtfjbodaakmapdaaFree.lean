/-
  The contract of thread.Free.
-/
import Derived.Test.YtfjbodaakmapdaaFreeW
namespace Go.Proofs.Ytfjbodaakmapdaa
open Go.RowKit Go.Shelf Th Kit Go.Proofs.YtfjbodaakmapdaaW.PrintWords

def freeOk (l : List ByteArray) (k n : Int) : Bool := isFam l && ((decide (1 ≤ k) && decide (k ≤ 4)) && (decide (0 ≤ n) && decide (n ≤ 30)))

def Given.thread_Free.f (l : List ByteArray) (k n : Int) : Option (List Int × Int) :=
  some (if freeOk l k n = true then (zs (freeOut l k.toNat n.toNat), 0) else ([], 2))

theorem free_no (A : Option Addr) (cp : Nat) (l : List ByteArray) (k n : Int) (w : World) (hr : SR w A l) (h : freeOk l k n = false) : Calls Try.prog 36 #[.slice A l.length cp, .int .i64 k, .int .i64 n] w (WithinPost [] 2 w) := by
  unfold freeOk at h
  cases hf : isFam l with
  | false =>
    have Hf := Lib.hid hf
    clear h hf
    go_enter Try.func36, Try.ntmps36
    go_wp2_with fail
    refine (isFamily_any A cp l _ hr).mono ?_
    rw [Hf.out]
    rintro e w1 ⟨rfl, hB1⟩
    go_wp2
    go_ret2
    exact ⟨_, rfl, Kd.R_nil _ _ _ _ _, hB1⟩
  | true =>
    have Hf := Lib.hid hf
    cases hk : (decide (1 ≤ k) && decide (k ≤ 4)) with
    | false =>
      have Hk := Lib.hid hk
      clear h hf hk
      go_enter Try.func36, Try.ntmps36
      go_wp2_with fail
      refine (isFamily_any A cp l _ hr).mono ?_
      rw [Hf.out]
      rintro e w1 ⟨rfl, hB1⟩
      go_wp2_with (go_at_call 43; refine (within_any _ _ _ false _ Hk.out).mono ?_; rintro e w2 ⟨rfl, rfl⟩)
      go_ret2
      exact ⟨_, rfl, Kd.R_nil _ _ _ _ _, hB1⟩
    | true =>
      have hn : (decide (0 ≤ n) && decide (n ≤ 30)) = false := by rw [hf, hk] at h; simpa using h
      have Hk := Lib.hid hk
      have Hn := Lib.hid hn
      clear h hf hk hn
      go_enter Try.func36, Try.ntmps36
      go_wp2_with fail
      refine (isFamily_any A cp l _ hr).mono ?_
      rw [Hf.out]
      rintro e w1 ⟨rfl, hB1⟩
      go_wp2_with fail
      refine (within_any _ _ _ true _ Hk.out).mono ?_
      rintro e w1' ⟨rfl, rfl⟩
      go_wp2_with fail
      refine (within_any _ _ _ false _ Hn.out).mono ?_
      rintro e w1' ⟨rfl, rfl⟩
      go_wp2
      go_ret2
      exact ⟨_, rfl, Kd.R_nil _ _ _ _ _, hB1⟩

theorem Given.thread_Free.calls (A0 : Option Addr) (c0 : Nat) (l0 : List ByteArray) (a1 a2 : Int) (r1 : List Int) (r2 : Int) (w : World) (hr0 : Kd.C Kd.string w A0 l0.length l0) (_hc0 : l0.length ≤ c0) (h : Given.thread_Free.f l0 a1 a2 = some (r1, r2)) :
    Calls Try.prog 36 #[.slice A0 l0.length c0, .int .i64 a1, .int .i64 a2] w fun e w' => ∃ v0_ : Value, e = .returned (.tuple #[v0_, .int .i64 r2]) ∧ Kd.R (Kd.int .i64) 3 w' w.heap.size (fun _ => True) v0_ r1 ∧ Below w.heap.size w w' := by
  show Calls Try.prog 36 #[.slice A0 l0.length c0, .int .i64 a1, .int .i64 a2] w (WithinPost r1 r2 w)
  have hs := SR.of w A0 l0 hr0
  unfold Given.thread_Free.f at h
  cases hu : freeOk l0 a1 a2 with
  | false =>
    rw [hu] at h
    obtain ⟨rfl, rfl⟩ : ([] : List Int) = r1 ∧ (2 : Int) = r2 := by simpa using h
    exact free_no A0 c0 l0 a1 a2 w hs hu
  | true =>
    rw [hu, if_pos rfl] at h
    unfold freeOk at hu
    simp only [Bool.and_eq_true, decide_eq_true_eq] at hu
    obtain ⟨hf, ⟨h1, h2⟩, h3, h4⟩ := hu
    obtain ⟨k, rfl⟩ : ∃ n : Nat, a1 = n := ⟨a1.toNat, by omega⟩
    obtain ⟨n, rfl⟩ : ∃ n : Nat, a2 = n := ⟨a2.toNat, by omega⟩
    obtain ⟨rfl, rfl⟩ : zs (freeOut l0 k n) = r1 ∧ (0 : Int) = r2 := by simpa using h
    exact free_walk A0 c0 l0 k n w hs hf (by omega) (by omega)
end Go.Proofs.Ytfjbodaakmapdaa
