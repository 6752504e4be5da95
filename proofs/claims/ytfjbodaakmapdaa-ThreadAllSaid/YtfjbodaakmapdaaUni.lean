/-
  Plain laws on arches and the first absent word.
-/
import Derived.Test.YtfjbodaakmapdaaLets
import Derived.Test.YtfjbodaakmapdaaAbs
namespace Go.Proofs.Ytfjbodaakmapdaa
open Go.RowKit Th

theorem tp_lo (l : List Nat) (i k : Nat) (hk : 1 ≤ k) : i ≤ tp l i k := Nat.le_trans (nx_ge l 0 i) (tp_ge l i k 0 hk)
/-- The need does not grow. -/
theorem nx_mono (l : List Nat) (c : Nat) : ∀ (n i : Nat), l.length - i ≤ n → i < l.length → nx l c i ≤ nx l c (i + 1)
  | 0, i, h, hi => by omega
  | n + 1, i, h, hi => by
    have := nx_step l c i hi
    split at this
    · have := nx_ge l c (i + 1); omega
    · omega
theorem nx_mono_le (l : List Nat) (c i j : Nat) (hij : i ≤ j) (hj : j ≤ l.length) : nx l c i ≤ nx l c j := by
  induction j with
  | zero => obtain rfl : i = 0 := by omega
            exact Nat.le_refl _
  | succ j ih =>
    by_cases e : i = j + 1
    · subst e; exact Nat.le_refl _
    · exact Nat.le_trans (ih (by omega) (by omega)) (nx_mono l c _ j (Nat.le_refl _) (by omega))
theorem tp_mono_le (l : List Nat) (i j : Nat) (hij : i ≤ j) (hj : j ≤ l.length) : ∀ k, tp l i k ≤ tp l j k
  | 0 => Nat.le_refl _
  | k + 1 => by
    have h1 := tp_mono_le l i j hij hj k
    have h2 := nx_mono_le l k i j hij hj
    rw [tp, tp]; omega
theorem ls_mono (l : List Nat) (k : Nat) (hk : 1 ≤ k) : ∀ (n i j : Nat), l.length + 1 - i ≤ n → i ≤ j → ls l k j ≤ ls l k i
  | n, i, j, hn, hij => by
    by_cases hj : j ≤ l.length
    · rw [ls_step l k i hk (by omega), ls_step l k j hk hj]
      have h1 := tp_mono_le l i j hij hj k
      have h2 := tp_lo l i k hk
      cases n with
      | zero => omega
      | succ n =>
        have := ls_mono l k hk n (tp l i k + 1) (tp l j k + 1) (by omega) (by omega)
        omega
    · rw [ls_end l k j (by omega)]; exact Nat.zero_le _

/-- All shorter words are subsequences. -/
theorem short_sub (l : List Nat) (k : Nat) (hk : 1 ≤ k) : ∀ (u : List Nat) (i : Nat), i ≤ l.length → Lt k u → u.length < ls l k i → u.Sublist (l.drop i)
  | [], _, _, _, _ => List.nil_sublist _
  | x :: u, i, hi, hu, h => by
    obtain ⟨c, rfl⟩ : ∃ c, x = 97 + c := ⟨x - 97, by have := hu.head; omega⟩
    have hc := hu.head
    rw [sub_nx l u c i hi]
    have h1 := tp_ge l i k c (by omega)
    have h2 := tp_le l i hi k
    rw [ls_step l k i hk hi] at h
    simp only [List.length_cons] at h
    have h3 : tp l i k < l.length := by
      by_cases e : tp l i k < l.length
      · exact e
      · rw [ls_end l k (tp l i k + 1) (by omega)] at h; omega
    have h4 := ls_mono l k hk _ (nx l c i + 1) (tp l i k + 1) (Nat.le_refl _) (by omega)
    exact ⟨by omega, short_sub l k hk u _ (by omega) hu.tail (by omega)⟩

theorem ab_find (l : List Nat) (k i : Nat) (hk : 1 ≤ k) (hi : i ≤ l.length) : ∃ c, c < k ∧ (List.range k).find? (fun c => 1 + ls l k (nx l c i + 1) == ls l k i) = some c ∧ 1 + ls l k (nx l c i + 1) = ls l k i := by
  cases h : (List.range k).find? (fun c => 1 + ls l k (nx l c i + 1) == ls l k i) with
  | none =>
    rw [List.find?_eq_none] at h
    obtain ⟨c, hc, e⟩ := tp_in l i k hk
    have := h c (List.mem_range.2 hc)
    rw [← e, ls_step l k i hk hi] at this
    simp at this
  | some c =>
    have h1 := List.find?_some h
    have h2 := List.mem_of_find?_eq_some h
    exact ⟨c, List.mem_range.1 h2, rfl, by simpa using h1⟩

theorem ab_spec (l : List Nat) (k : Nat) (hk : 1 ≤ k) : ∀ (f i : Nat), l.length + 1 ≤ f + i → i ≤ l.length → (ab l k f i).length = ls l k i ∧ Lt k (ab l k f i) ∧ ¬ (ab l k f i).Sublist (l.drop i)
  | 0, i, h, hi => by omega
  | f + 1, i, h, hi => by
    obtain ⟨c, hc, hfind, heq⟩ := ab_find l k i hk hi
    have hge := nx_ge l c i
    rw [ab, if_pos hi, hfind]
    simp only
    by_cases hn : nx l c i < l.length
    · obtain ⟨h1, h2, h3⟩ := ab_spec l k hk f (nx l c i + 1) (by omega) (by omega)
      refine ⟨by rw [List.length_cons, h1]; omega, ?_, ?_⟩
      · intro x hx
        rcases List.mem_cons.1 hx with rfl | hx
        · omega
        · exact h2 x hx
      · rw [sub_nx l _ c i hi]
        exact fun h => h3 h.2
    · have hab : ab l k f (nx l c i + 1) = [] := by
        cases f with
        | zero => rfl
        | succ f => rw [ab, if_neg (by omega)]
      rw [hab]
      rw [ls_end l k (nx l c i + 1) (by omega)] at heq
      refine ⟨by simp; omega, ?_, ?_⟩
      · intro x hx
        rcases List.mem_cons.1 hx with rfl | hx
        · omega
        · cases hx
      · rw [sub_nx l _ c i hi]
        exact fun h => hn h.1

theorem ar_len (l : List Nat) (k : Nat) (hk : 1 ≤ k) : ∀ (f i : Nat), l.length + 1 ≤ f + i → i ≤ l.length → (ar l k f i).length + 1 = ls l k i
  | 0, i, h, hi => by omega
  | f + 1, i, h, hi => by
    have h1 := tp_lo l i k hk
    have h2 := tp_le l i hi k
    rw [ar, ls_step l k i hk hi]
    by_cases e : tp l i k = l.length
    · rw [if_pos e, ls_end l k _ (by omega)]; rfl
    · rw [if_neg e, List.length_cons, ar_len l k hk f (tp l i k + 1) (by omega) (by omega)]; omega

/-! ### A word repeated -/
theorem fnd_app (c : Nat) : ∀ (a b : List Nat), fnd c (a ++ b) = if fnd c a < a.length then fnd c a else a.length + fnd c b
  | [], b => by simp [fnd]
  | x :: a, b => by
    rw [List.cons_append, fnd, fnd]
    by_cases e : x = 97 + c
    · rw [if_pos e, if_pos e, if_pos (by simp)]
    · rw [if_neg e, if_neg e, fnd_app c a b]
      simp only [List.length_cons]
      split <;> split <;> omega
theorem nx_app (a b : List Nat) (c i : Nat) (hi : i ≤ a.length) : nx (a ++ b) c i = if nx a c i < a.length then nx a c i else a.length + fnd c b := by
  unfold nx
  rw [List.drop_append_of_le_length hi, fnd_app, List.length_drop]
  split <;> split <;> omega
theorem nx_app2 (a b : List Nat) (c i : Nat) : nx (a ++ b) c (a.length + i) = a.length + nx b c i := by
  unfold nx
  rw [List.drop_append, List.drop_eq_nil_of_le (show a.length ≤ a.length + i by omega), List.nil_append, show a.length + i - a.length = i by omega]
  omega
theorem tp_app (a b : List Nat) (i : Nat) (hi : i ≤ a.length) : ∀ k, tp a i k < a.length → tp (a ++ b) i k = tp a i k
  | 0, _ => rfl
  | k + 1, h => by
    rw [tp] at h
    rw [tp, tp, tp_app a b i hi k (by omega), nx_app a b k i hi, if_pos (by omega)]
theorem tp_app2 (a b : List Nat) (i : Nat) : ∀ k, 1 ≤ k → tp (a ++ b) (a.length + i) k = a.length + tp b i k
  | 1, _ => by simp [tp, nx_app2]
  | k + 2, _ => by
    rw [tp, tp_app2 a b i (k + 1) (by omega), nx_app2, tp.eq_2 b i (k + 1)]
    omega

theorem ar_app2 (a b : List Nat) (k : Nat) (hk : 1 ≤ k) : ∀ (f i : Nat), ar (a ++ b) k f (a.length + i) = (ar b k f i).map (a.length + ·)
  | 0, i => rfl
  | f + 1, i => by
    rw [ar, ar, tp_app2 a b i k hk, List.length_append]
    by_cases e : tp b i k = b.length
    · rw [if_pos (by omega), if_pos e]; rfl
    · rw [if_neg (by omega), if_neg e, Nat.add_assoc, ar_app2 a b k hk f (tp b i k + 1)]; rfl
theorem ar_irr (l : List Nat) (k : Nat) (hk : 1 ≤ k) : ∀ (f g i : Nat), i ≤ l.length → l.length + 1 ≤ f + i → l.length + 1 ≤ g + i → ar l k f i = ar l k g i
  | 0, _, i, hi, h, _ => by omega
  | _, 0, i, hi, _, h => by omega
  | f + 1, g + 1, i, hi, h1, h2 => by
    have h3 := tp_lo l i k hk
    have h4 := tp_le l i hi k
    rw [ar, ar]
    by_cases e : tp l i k = l.length
    · rw [if_pos e, if_pos e]
    · rw [if_neg e, if_neg e, ar_irr l k hk f g _ (by omega) (by omega) (by omega)]
/-- The arches of a word repeated, where the word ends with an arch. -/
theorem ar_twice (l : List Nat) (k : Nat) (hk : 1 ≤ k) : ∀ (f g i : Nat), i ≤ l.length → l.length + 1 ≤ f + i → l.length + l.length + 1 ≤ g + i → (ar l k f i).getLast? = some (l.length - 1) →
    ar (l ++ l) k g i = ar l k f i ++ (ar l k (l.length + 1) 0).map (l.length + ·)
  | 0, _, i, hi, h, _, _ => by omega
  | f + 1, 0, i, hi, _, h, _ => by omega
  | f + 1, g + 1, i, hi, h1, h2, hl => by
    have h3 := tp_lo l i k hk
    have h4 := tp_le l i hi k
    rw [ar] at hl ⊢
    rw [ar.eq_2 l]
    by_cases e : tp l i k = l.length
    · rw [if_pos e] at hl; cases hl
    · rw [if_neg e] at hl ⊢
      rw [tp_app l l i hi k (by omega), List.length_append, if_neg (by omega)]
      rw [List.cons_append]
      congr 1
      by_cases hend : tp l i k + 1 = l.length
      · have : ar l k f (tp l i k + 1) = [] := by
          cases f with
          | zero => rfl
          | succ f =>
            rw [ar, hend, if_pos]
            have := tp_lo l l.length k hk
            have := tp_le l l.length (Nat.le_refl _) k
            omega
        rw [this, List.nil_append, hend]
        have e2 := ar_app2 l l k hk g 0
        rw [Nat.add_zero] at e2
        rw [e2, ar_irr l k hk g (l.length + 1) 0 (Nat.zero_le _) (by omega) (by omega)]
      · refine ar_twice l k hk f g _ (by omega) (by omega) (by omega) ?_
        cases hr : ar l k f (tp l i k + 1) with
        | nil =>
          rw [hr] at hl
          simp at hl
          omega
        | cons y r =>
          rw [hr] at hl
          rw [List.getLast?_cons_cons] at hl
          exact hl
end Go.Proofs.Ytfjbodaakmapdaa
