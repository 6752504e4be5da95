/-
  The walks of slices.Max over a word's row, and of thread.Arches.
-/
import Derived.Test.YtfjbodaakmapdaaOver
namespace Go.Proofs.Ytfjbodaakmapdaa
open Go.RowKit Th Kit Go.Proofs.YtfjbodaakmapdaaW.PrintWords

/-- The greatest of the positions of the first k letters. -/
def tp (l : List Nat) (i : Nat) : Nat → Nat
  | 0 => 0
  | k + 1 => max (tp l i k) (nx l k i)
theorem tp_le (l : List Nat) (i : Nat) (h : i ≤ l.length) : ∀ k, tp l i k ≤ l.length
  | 0 => Nat.zero_le _
  | k + 1 => by rw [tp]; have := tp_le l i h k; have := nx_le l k i h; omega
theorem tp_ge (l : List Nat) (i k c : Nat) (h : c < k) : nx l c i ≤ tp l i k := by
  induction k with
  | zero => omega
  | succ k ih =>
    rw [tp]
    by_cases hc : c = k
    · subst hc; omega
    · have := ih (by omega); omega
theorem tp_in (l : List Nat) (i : Nat) : ∀ k, 1 ≤ k → ∃ c, c < k ∧ tp l i k = nx l c i
  | 1, _ => ⟨0, by omega, by simp [tp]⟩
  | k + 2, _ => by
    obtain ⟨c, hc, e⟩ := tp_in l i (k + 1) (by omega)
    rw [tp, e]
    by_cases h : nx l c i ≤ nx l (k + 1) i
    · exact ⟨k + 1, by omega, by omega⟩
    · exact ⟨c, by omega, by omega⟩

theorem max_any (b : Nat) (s : ByteArray) (i k : Nat) (w : World) (hw : IsWord w b s) (hi : i ≤ s.size) (hk : 1 ≤ k ∧ k ≤ 4) :
    Calls Try.prog 45 #[.slice (some ⟨b, 1 + i * 4, none⟩) k 4] w fun e w' => e = .returned (.int .i64 (tp (bl s) i k)) ∧ w = w' := by
  obtain ⟨hk1, hk2⟩ := hk
  have Hbl := Lib.hid (bl_len s)
  have h0 := hw.next i 0 hi (by omega)
  simp only [Nat.add_zero] at h0
  go_enter Try.func45, Try.ntmps45
  go_wp2
  go_loopw [3, 4] (fun vm vi wr => ∃ (m j : Nat), vm = .int .i64 m ∧ vi = .int .i64 j ∧ 1 ≤ j ∧ j ≤ k ∧ Aside0 (m = tp (bl s) i j) ∧ wr = w) (fun _ vi _ => 4 - (intOf vi).toNat)
  case atStart =>
    exact ⟨_, 1, rfl, rfl, Nat.le_refl _, hk1, ⟨by simp [tp]⟩, rfl⟩
  case round =>
    obtain ⟨m, j, rfl, rfl, h1, h2, HM, rfl⟩ := hrel
    by_cases hlt : j < k
    · have hc := hw.next i j hi (by omega)
      go_wp2
      go_roundw
      case rel =>
        refine ⟨max m (nx (bl s) j i), j + 1, int_eq (by split <;> omega), by go_num, by omega, by omega, ⟨by rw [tp, HM.out]⟩, trivial⟩
      case measure => simp [intOf]; omega
    · obtain rfl : j = k := by omega
      obtain rfl := HM.out
      go_wp2
      go_ret
      exact ⟨rfl, rfl⟩

/-- The ends of the arches from i on. -/
def ar (l : List Nat) (k : Nat) : Nat → Nat → List Nat
  | 0, _ => []
  | f + 1, i => if tp l i k = l.length then [] else tp l i k :: ar l k f (tp l i k + 1)

def archOk (s : ByteArray) (k : Int) : Bool := isW s && ((decide (1 ≤ k) && decide (k ≤ 4)) && overB (bl s) k.toNat)

namespace Given
def thread_Arches.f (s : ByteArray) (k : Int) : Option (List Int × Int) :=
  some (if archOk s k = true then (zs (ar (bl s) k.toNat (s.size + 1) 0), 0) else ([], 2))
end Given

set_option maxRecDepth 100000 in
set_option maxHeartbeats 2000000 in
theorem arches_walk (t : ByteArray) (k : Nat) (w : World) (ht : isW t = true) (hk : 1 ≤ k ∧ k ≤ 4) (ho : overB (bl t) k = true) :
    Calls Try.prog 16 #[.string t, .int .i64 k] w (WithinPost (zs (ar (bl t) k (t.size + 1) 0)) 0 w) := by
  obtain ⟨ht60, htl⟩ := (isW_iff t).1 ht
  obtain ⟨hk1, hk2⟩ := hk
  have Ht := Lib.hid ht
  have Ho := Lib.hid ho
  clear ht ho htl
  have hk1' : (1 : Int) ≤ (k : Int) := by omega
  have hk2' : (k : Int) ≤ 4 := by omega
  have hkr : (decide ((1 : Int) ≤ (k : Int)) && decide ((k : Int) ≤ 4)) = true := by simp; omega
  have Hkr := Lib.hid hkr
  clear hkr
  go_enter Try.func16, Try.ntmps16
  go_wp2_with fail
  refine (newWord_yes t _ Ht.out).mono ?_
  rintro e w1 ⟨rfl, hw1, hB1⟩
  go_wp2_with (first | (go_at_call 43; refine (within_any _ _ _ true _ Hkr.out).mono ?_; rintro e w2 ⟨rfl, rfl⟩) | (go_at_call 44; refine (isOver_any t k _ Ht.out ⟨hk1, hk2⟩).mono ?_; rw [Ho.out]; rintro e w2 ⟨rfl, hB2⟩))
  have hw := hw1.below hB2
  have hB := hB1.trans (hB2.mono hB1.size)
  clear hw1 hB1 hB2
  go_loopw [8, 9] (fun vo va wr => ∃ (i f : Nat) (ps : List Nat), va = .int .i64 i ∧ i ≤ t.size ∧ ps.length ≤ i ∧ t.size + 1 ≤ f + i ∧
      Aside0 (ar (bl t) k (t.size + 1) 0 = ps ++ ar (bl t) k f i) ∧ Aside0 (Kd.R (Kd.int .i64) 3 wr w2.heap.size (fun _ => True) vo (zs ps)) ∧ Aside0 (Below w2.heap.size w2 wr)) (fun _ va _ => t.size + 1 - (intOf va).toNat)
  case atStart =>
    exact ⟨0, t.size + 1, [], rfl, Nat.zero_le _, Nat.zero_le _, by omega, ⟨rfl⟩, ⟨Kd.R_nil _ _ _ _ _⟩, ⟨Below.refl _ _⟩⟩
  case round =>
    obtain ⟨i, f, ps, rfl, hi, hps, hf, HA, HO, HB⟩ := hrel
    have hwr := hw.below HB.out
    obtain ⟨f, rfl⟩ : ∃ g, f = g + 1 := ⟨f - 1, by omega⟩
    have hle := tp_le (bl t) i (by rw [bl_len]; exact hi) k
    rw [bl_len] at hle
    have hge : i ≤ tp (bl t) i k := Nat.le_trans (nx_ge _ 0 _) (tp_ge _ _ _ 0 (by omega))
    by_cases he : tp (bl t) i k = t.size
    · go_wp2_with (go_at_call 45; refine (max_any _ t i k _ hwr hi ⟨hk1, hk2⟩).mono ?_; rintro e w' ⟨rfl, rfl⟩)
      go_ret2
      refine ⟨_, rfl, ?_, hB.trans (HB.out.mono hB.size)⟩
      rw [HA.out, ar, if_pos (by rw [bl_len]; exact he), List.append_nil]
      exact Kd.R_lower HO.out hB.size
    · go_wp2_with (first | (go_at_call 45; refine (max_any _ t i k _ hwr hi ⟨hk1, hk2⟩).mono ?_; rintro e w' ⟨rfl, rfl⟩) | ((with_reducible refine gate_builtin (b := .append) (xs := #[.tmp 42, .tmp 44]) rfl ?_); at_builtin; refine Kd.R_append (Kd.int .i64) (w0 := w2) w2.heap.size rfl (.tmp 42) (.tmp 44) 24 3 (.int .i64 0) 8 rfl Try.underlying24 info3 rfl (by decide) (by omega) u8 (zs ps) (tp (bl t) i k) [.int .i64 (tp (bl t) i k)] (fun _ => True) (fun _ => False) rfl rfl rfl (fun _ hk => hk.elim) (fun _ _ => trivial) HO.out HB.out HB.out.size (by rw [zs_len]; omega) ?_; intro v4 w4 ho hb hg hat))
      go_roundw
      case rel =>
        refine ⟨tp (bl t) i k + 1, f, ps ++ [tp (bl t) i k], by go_num, by omega, by simp; omega, by omega, ⟨?_⟩, ⟨by rw [zs_snoc]; exact ho⟩, ⟨hb⟩⟩
        rw [HA.out, ar, if_neg (by rw [bl_len]; exact he), List.append_assoc]; rfl
      case measure => simp [intOf]; omega

theorem arches_no (t : ByteArray) (k : Int) (w : World) (h : archOk t k = false) : Calls Try.prog 16 #[.string t, .int .i64 k] w (WithinPost [] 2 w) := by
  unfold archOk at h
  cases ht : isW t with
  | false =>
    have Ht := Lib.hid ht
    clear ht h
    go_enter Try.func16, Try.ntmps16
    go_wp2_with fail
    refine (newWord_no t _ Ht.out).mono ?_
    rintro e w1 ⟨rfl, hB1⟩
    go_wp2
    go_ret2
    exact ⟨_, rfl, Kd.R_nil _ _ _ _ _, hB1⟩
  | true =>
    have Ht := Lib.hid ht
    cases hkr : (decide (1 ≤ k) && decide (k ≤ 4)) with
    | false =>
      have Hkr := Lib.hid hkr
      clear ht h hkr
      go_enter Try.func16, Try.ntmps16
      go_wp2_with fail
      refine (newWord_yes t _ Ht.out).mono ?_
      rintro e w1 ⟨rfl, _, hB1⟩
      go_wp2_with (go_at_call 43; refine (within_any _ _ _ false _ Hkr.out).mono ?_; rintro e w2 ⟨rfl, rfl⟩)
      go_ret2
      exact ⟨_, rfl, Kd.R_nil _ _ _ _ _, hB1⟩
    | true =>
      have hk : 1 ≤ k ∧ k ≤ 4 := by simpa using hkr
      obtain ⟨k, rfl⟩ : ∃ n : Nat, k = n := ⟨k.toNat, by omega⟩
      have ho : overB (bl t) k = false := by rw [ht, hkr] at h; simpa using h
      have Ho := Lib.hid ho
      clear ho
      have Hkr := Lib.hid hkr
      clear ht h hkr
      have Hk : 1 ≤ k ∧ k ≤ 4 := by omega
      clear hk
      go_enter Try.func16, Try.ntmps16
      go_wp2_with fail
      refine (newWord_yes t _ Ht.out).mono ?_
      rintro e w1 ⟨rfl, _, hB1⟩
      go_wp2_with (first | (go_at_call 43; refine (within_any _ _ _ true _ Hkr.out).mono ?_; rintro e w2 ⟨rfl, rfl⟩) | (go_at_call 44; refine (isOver_any t k _ Ht.out Hk).mono ?_; rw [Ho.out]; rintro e w2 ⟨rfl, hB2⟩))
      go_ret2
      exact ⟨_, rfl, Kd.R_nil _ _ _ _ _, hB1.trans (hB2.mono hB1.size)⟩

theorem Given.thread_Arches.calls (a0 : ByteArray) (a1 : Int) (r1 : List Int) (r2 : Int) (w : World) (h : Given.thread_Arches.f a0 a1 = some (r1, r2)) :
    Calls Try.prog 16 #[.string a0, .int .i64 a1] w fun e w' => ∃ v0_ : Value, e = .returned (.tuple #[v0_, .int .i64 r2]) ∧ Kd.R (Kd.int .i64) 3 w' w.heap.size (fun _ => True) v0_ r1 ∧ Below w.heap.size w w' := by
  show Calls Try.prog 16 #[.string a0, .int .i64 a1] w (WithinPost r1 r2 w)
  unfold Given.thread_Arches.f at h
  cases hu : archOk a0 a1 with
  | false =>
    rw [hu] at h
    obtain ⟨rfl, rfl⟩ : ([] : List Int) = r1 ∧ (2 : Int) = r2 := by simpa using h
    exact arches_no a0 a1 w hu
  | true =>
    rw [hu, if_pos rfl] at h
    unfold archOk at hu
    simp only [Bool.and_eq_true, decide_eq_true_eq] at hu
    obtain ⟨ht, ⟨h1, h2⟩, ho⟩ := hu
    obtain ⟨k, rfl⟩ : ∃ n : Nat, a1 = n := ⟨a1.toNat, by omega⟩
    obtain ⟨rfl, rfl⟩ : zs (ar (bl a0) k (a0.size + 1) 0) = r1 ∧ (0 : Int) = r2 := by simpa using h
    exact arches_walk a0 k w ht (by omega) ho

end Go.Proofs.Ytfjbodaakmapdaa
