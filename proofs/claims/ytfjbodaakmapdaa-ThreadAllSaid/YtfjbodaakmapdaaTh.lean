/-
  Plain definitions and laws for package thread: words as lists of numbers, next letters, counts. No program in sight.
-/
import Derived.WalkKit
namespace Go.Proofs.Ytfjbodaakmapdaa.Th

/-- The bytes of a string as numbers. -/
def bl (s : ByteArray) : List Nat := s.data.toList.map (·.toNat)
theorem bl_len (s : ByteArray) : (bl s).length = s.size := by
  unfold bl; rw [List.length_map, Array.length_toList]; rfl
theorem bl_get (s : ByteArray) (i : Nat) (h : i < s.size) : (bl s)[i]'(by rw [bl_len]; exact h) = s[i].toNat := by
  simp only [bl, List.getElem_map]; rfl

/-- A word: at most 60 letters 'a' to 'd'. -/
def isW (s : ByteArray) : Bool := decide (s.size ≤ 60) && (bl s).all fun x => decide (97 ≤ x ∧ x ≤ 100)

theorem isW_iff (s : ByteArray) : isW s = true ↔ s.size ≤ 60 ∧ ∀ i (h : i < s.size), 97 ≤ s[i].toNat ∧ s[i].toNat ≤ 100 := by
  simp only [isW, Bool.and_eq_true, decide_eq_true_eq, List.all_eq_true]
  refine and_congr_right fun _ => ⟨fun h i hi => ?_, fun h x hx => ?_⟩
  · have := h ((bl s)[i]'(by rw [bl_len]; exact hi)) (List.getElem_mem _)
    rwa [bl_get] at this
  · obtain ⟨i, hi, rfl⟩ := List.getElem_of_mem hx
    rw [bl_len] at hi
    rw [bl_get s i hi]
    exact h i hi

/-- How many letters stand before the first letter number c (all, if there is none). -/
def fnd (c : Nat) : List Nat → Nat
  | [] => 0
  | x :: l => if x = 97 + c then 0 else fnd c l + 1

theorem fnd_le (c : Nat) : ∀ l, fnd c l ≤ l.length
  | [] => Nat.le_refl _
  | x :: l => by
    unfold fnd
    split
    · omega
    · have := fnd_le c l
      simp only [List.length_cons]; omega

/-- The position of the first letter number c from i on; the length, if there is none. -/
def nx (l : List Nat) (c i : Nat) : Nat := i + fnd c (l.drop i)

theorem nx_ge (l : List Nat) (c i : Nat) : i ≤ nx l c i := by unfold nx; omega
theorem nx_le (l : List Nat) (c i : Nat) (h : i ≤ l.length) : nx l c i ≤ l.length := by
  have := fnd_le c (l.drop i)
  rw [List.length_drop] at this
  unfold nx; omega
theorem nx_end (l : List Nat) (c : Nat) : nx l c l.length = l.length := by simp [nx, fnd]
theorem nx_step (l : List Nat) (c i : Nat) (h : i < l.length) : nx l c i = if l[i] = 97 + c then i else nx l c (i + 1) := by
  unfold nx
  rw [List.drop_eq_getElem_cons h, fnd]
  split
  · omega
  · omega
theorem nx_drop (l : List Nat) (c i : Nat) : nx l c i = i + fnd c (l.drop i) := rfl

/-! ### How many different subsequences there are -/
/-- The counts of a word and of all its ends. -/
def cntT : List Nat → List Nat
  | [] => [1]
  | x :: l => (1 + (if fnd 0 (x :: l) < l.length + 1 then (cntT l).getD (fnd 0 (x :: l)) 0 else 0) + (if fnd 1 (x :: l) < l.length + 1 then (cntT l).getD (fnd 1 (x :: l)) 0 else 0)
      + (if fnd 2 (x :: l) < l.length + 1 then (cntT l).getD (fnd 2 (x :: l)) 0 else 0) + (if fnd 3 (x :: l) < l.length + 1 then (cntT l).getD (fnd 3 (x :: l)) 0 else 0)) :: cntT l

/-- How many different subsequences a word has. -/
def cn (l : List Nat) : Nat := (cntT l).headD 0

theorem cntT_len : ∀ l, (cntT l).length = l.length + 1
  | [] => rfl
  | x :: l => by rw [cntT, List.length_cons, cntT_len l]; rfl
theorem cntT_get : ∀ (l : List Nat) (i : Nat), i ≤ l.length → (cntT l).getD i 0 = cn (l.drop i)
  | l, 0, _ => by
    rw [List.drop_zero]; unfold cn; cases h : cntT l <;> rfl
  | [], i + 1, h => by simp at h
  | x :: l, i + 1, h => by
    have := cntT_get l i (by simpa using h)
    rw [cntT]; simpa using this

/-- What the letter number c adds to the count. -/
def tm (l : List Nat) (c : Nat) : Nat := if fnd c l < l.length then cn (l.drop (fnd c l + 1)) else 0
/-- The count as far as the first k letters go. -/
def pc (l : List Nat) : Nat → Nat
  | 0 => 1
  | k + 1 => pc l k + tm l k

theorem cn_eq : ∀ l, cn l = pc l 4
  | [] => rfl
  | x :: l => by
    have e : ∀ c, (if fnd c (x :: l) < l.length + 1 then (cntT l).getD (fnd c (x :: l)) 0 else 0) = tm (x :: l) c := fun c => by
      unfold tm
      rw [List.length_cons]
      split
      · rw [cntT_get l _ (by omega)]; rfl
      · rfl
    unfold cn
    rw [cntT, e, e, e, e]
    simp [pc]

theorem tm_cons (x : Nat) (l : List Nat) (c : Nat) : tm (x :: l) c = if x = 97 + c then cn l else tm l c := by
  unfold tm
  rw [fnd]
  split
  · simp
  · simp only [List.length_cons, List.drop_succ_cons]
    split <;> split <;> first | rfl | omega

theorem cn_step (x : Nat) (l : List Nat) : cn (x :: l) ≤ cn l + cn l := by
  rw [cn_eq (x :: l)]
  have h := cn_eq l
  simp only [pc, tm_cons] at h ⊢
  by_cases h0 : x = 97
  · subst h0; simp; omega
  · by_cases h1 : x = 98
    · subst h1; simp; omega
    · by_cases h2 : x = 99
      · subst h2; simp; omega
      · by_cases h3 : x = 100
        · subst h3; simp; omega
        · simp [h0, h1, h2, h3]; omega

theorem cn_le : ∀ l, cn l ≤ 2 ^ l.length
  | [] => Nat.le_refl _
  | x :: l => by
    have h := cn_le l
    have := cn_step x l
    rw [List.length_cons, Nat.pow_succ]; omega
theorem cn_pos (l : List Nat) : 1 ≤ cn l := by rw [cn_eq]; simp only [pc]; omega

theorem pc_mono (l : List Nat) (k : Nat) : pc l k ≤ pc l (k + 1) := by rw [pc]; omega
theorem pc_le (l : List Nat) : ∀ k, k ≤ 4 → pc l k ≤ cn l := by
  rw [cn_eq]
  intro k hk
  have h0 : pc l 0 ≤ pc l 1 := pc_mono l 0
  have h1 : pc l 1 ≤ pc l 2 := pc_mono l 1
  have h2 : pc l 2 ≤ pc l 3 := pc_mono l 2
  have h3 : pc l 3 ≤ pc l 4 := pc_mono l 3
  rcases (show k = 0 ∨ k = 1 ∨ k = 2 ∨ k = 3 ∨ k = 4 by omega) with rfl | rfl | rfl | rfl | rfl <;> omega

theorem cn_60 (l : List Nat) (h : l.length ≤ 60) : cn l ≤ 1152921504606846976 :=
  Nat.le_trans (cn_le l) (Nat.le_trans (Nat.pow_le_pow_right (by omega) h) (by decide))

/-! ### Positions -/
/-- The first positions of u's letters in w, from a position on. -/
def wn : List Nat → List Nat → Nat → Option (List Nat)
  | [], _, _ => some []
  | x :: u, w, i => if nx w (x - 97) i < w.length then (wn u w (nx w (x - 97) i + 1)).map (nx w (x - 97) i :: ·) else none

/-- Positions as Go's numbers. -/
def zs (l : List Nat) : List Int := l.map fun n : Nat => (n : Int)
theorem zs_snoc (l : List Nat) (n : Nat) : zs (l ++ [n]) = zs l ++ [(n : Int)] := by simp [zs]
theorem zs_len (l : List Nat) : (zs l).length = l.length := by simp [zs]

theorem drop_at {l : List Nat} {k : Nat} (h : k < l.length) : l.drop k = l[k] :: l.drop (k + 1) := List.drop_eq_getElem_cons h

/-! ### Ranks -/
/-- The rank of a subsequence u of w: the walk from position i on, with acc counted. -/
def ix : List Nat → List Nat → Nat → Nat → Option Nat
  | [], _, _, acc => some acc
  | x :: u, w, i, acc => if nx w (x - 97) i < w.length then ix u w (nx w (x - 97) i + 1) (acc + pc (w.drop i) (x - 97)) else none

theorem tm_nx (l : List Nat) (c i : Nat) : tm (l.drop i) c = if nx l c i < l.length then cn (l.drop (nx l c i + 1)) else 0 := by
  unfold tm
  rw [List.length_drop, nx_drop, List.drop_drop]
  have hle := fnd_le c (l.drop i)
  rw [List.length_drop] at hle
  by_cases h : fnd c (l.drop i) < l.length - i
  · rw [if_pos h, if_pos (by omega)]; congr 1
  · rw [if_neg h]
    by_cases h2 : i + fnd c (l.drop i) < l.length
    · omega
    · rw [if_neg h2]

theorem pc_step (l : List Nat) (c i : Nat) (h : nx l c i < l.length) : pc (l.drop i) c + cn (l.drop (nx l c i + 1)) = pc (l.drop i) (c + 1) := by
  rw [pc, tm_nx, if_pos h]
theorem pc_stay (l : List Nat) (c i : Nat) (h : ¬ nx l c i < l.length) : pc (l.drop i) c = pc (l.drop i) (c + 1) := by
  rw [pc, tm_nx, if_neg h]; rfl

/-! ### Items -/
/-- The first letter of the subsequence with the rank k (k from 1 on). -/
def sel (l : List Nat) (k : Nat) : Nat := if k < pc l 1 then 0 else if k < pc l 2 then 1 else if k < pc l 3 then 2 else 3
def itmF : Nat → List Nat → Nat → List Nat
  | 0, _, _ => []
  | f + 1, l, k => if k = 0 then [] else (97 + sel l k) :: itmF f (l.drop (fnd (sel l k) l + 1)) (k - pc l (sel l k))
/-- The subsequence with the rank k. -/
def itm (l : List Nat) (k : Nat) : List Nat := itmF l.length l k

theorem sel_lt (l : List Nat) (k : Nat) : sel l k < 4 := by
  unfold sel
  split
  · omega
  · split
    · omega
    · split <;> omega
theorem sel_of {l : List Nat} {k c : Nat} (hc : c < 4) (h1 : pc l c ≤ k) (h2 : k < pc l (c + 1)) : sel l k = c := by
  have a0 : pc l 0 ≤ pc l 1 := pc_mono l 0
  have a1 : pc l 1 ≤ pc l 2 := pc_mono l 1
  have a2 : pc l 2 ≤ pc l 3 := pc_mono l 2
  unfold sel
  rcases (show c = 0 ∨ c = 1 ∨ c = 2 ∨ c = 3 by omega) with rfl | rfl | rfl | rfl
  · rw [if_pos h2]
  · rw [if_neg (by omega), if_pos h2]
  · rw [if_neg (by omega), if_neg (by omega), if_pos h2]
  · rw [if_neg (by omega), if_neg (by omega), if_neg (by omega)]

/-- A subsequence beyond the empty one begins with a letter that is there. -/
theorem sel_spec {l : List Nat} {k : Nat} (h0 : 0 < k) (hk : k < cn l) :
    pc l (sel l k) ≤ k ∧ k < pc l (sel l k + 1) ∧ fnd (sel l k) l < l.length ∧ k - pc l (sel l k) < cn (l.drop (fnd (sel l k) l + 1)) := by
  rw [cn_eq] at hk
  have e0 : pc l 0 = 1 := rfl
  have key : pc l (sel l k) ≤ k ∧ k < pc l (sel l k + 1) := by
    unfold sel
    split
    · rename_i h; exact ⟨by rw [e0]; omega, h⟩
    · split
      · rename_i h1 h; exact ⟨by omega, h⟩
      · split
        · rename_i h1 h2 h; exact ⟨by omega, h⟩
        · rename_i h1 h2 h3; exact ⟨by omega, hk⟩
  have h2 := key.2
  rw [pc] at h2
  by_cases h : fnd (sel l k) l < l.length
  · unfold tm at h2; rw [if_pos h] at h2
    exact ⟨key.1, key.2, h, by omega⟩
  · unfold tm at h2; rw [if_neg h] at h2; omega

theorem itmF_zero (f : Nat) (l : List Nat) : itmF f l 0 = [] := by cases f <;> rfl
theorem itmF_any : ∀ (f g : Nat) (l : List Nat) (k : Nat), l.length ≤ f → l.length ≤ g → k < cn l → itmF f l k = itmF g l k := by
  have nil : ∀ (l : List Nat) (k : Nat), l.length ≤ 0 → k < cn l → k = 0 := fun l k hl hk => by
    have : l = [] := List.length_eq_zero_iff.1 (by omega)
    subst this
    have : cn [] = 1 := rfl
    omega
  intro f
  induction f with
  | zero =>
    intro g l k hf hg hk
    rw [nil l k hf hk, itmF_zero, itmF_zero]
  | succ f ih =>
    intro g l k hf hg hk
    cases g with
    | zero => rw [nil l k hg hk, itmF_zero, itmF_zero]
    | succ g =>
      rw [itmF, itmF]
      by_cases h0 : k = 0
      · rw [if_pos h0, if_pos h0]
      · rw [if_neg h0, if_neg h0]
        obtain ⟨_, _, _, h4⟩ := sel_spec (by omega) hk
        rw [ih g _ _ (by rw [List.length_drop]; omega) (by rw [List.length_drop]; omega) h4]

theorem itm_zero (l : List Nat) : itm l 0 = [] := itmF_zero _ _
theorem itm_step {l : List Nat} {k : Nat} (h0 : 0 < k) (hk : k < cn l) : itm l k = (97 + sel l k) :: itm (l.drop (fnd (sel l k) l + 1)) (k - pc l (sel l k)) := by
  obtain ⟨_, _, h3, h4⟩ := sel_spec h0 hk
  have hl : 0 < l.length := by omega
  obtain ⟨n, hn⟩ : ∃ n, l.length = n + 1 := ⟨l.length - 1, by omega⟩
  unfold itm
  rw [hn, itmF, if_neg (by omega)]
  rw [itmF_any n _ _ _ (by rw [List.length_drop]; omega) (Nat.le_refl _) h4]

/-- A list of numbers below 256 as a string. -/
def str (l : List Nat) : ByteArray := ⟨(l.map UInt8.ofNat).toArray⟩

example : cn [97, 98, 97, 98] = 12 := by decide
end Go.Proofs.Ytfjbodaakmapdaa.Th
