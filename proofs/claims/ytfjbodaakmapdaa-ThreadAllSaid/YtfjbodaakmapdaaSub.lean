/-
  Plain laws on subsequences: first positions, ranks, items. No program in sight.
-/
import Derived.Test.YtfjbodaakmapdaaTh
namespace Go.Proofs.Ytfjbodaakmapdaa.Th

/-- A list of letters: the first k ones. -/
def Lt (k : Nat) (u : List Nat) : Prop := ∀ x ∈ u, 97 ≤ x ∧ x < 97 + k
theorem Lt.tail {k x : Nat} {u : List Nat} (h : Lt k (x :: u)) : Lt k u := fun y hy => h y (List.mem_cons_of_mem _ hy)
theorem Lt.head {k x : Nat} {u : List Nat} (h : Lt k (x :: u)) : 97 ≤ x ∧ x < 97 + k := h x List.mem_cons_self
theorem Lt.sub {k : Nat} {u v : List Nat} (h : Lt k v) (hs : u.Sublist v) : Lt k u := fun x hx => h x (hs.subset hx)
theorem Lt.drop {k : Nat} {u : List Nat} (h : Lt k u) (n : Nat) : Lt k (u.drop n) := h.sub (List.drop_sublist n u)
theorem Lt.append {k : Nat} {u v : List Nat} (h : Lt k u) (g : Lt k v) : Lt k (u ++ v) := fun x hx => (List.mem_append.1 hx).elim (h x) (g x)
theorem Lt.mono {j k : Nat} {u : List Nat} (h : Lt j u) (hj : j ≤ k) : Lt k u := fun x hx => by have := h x hx; omega

theorem fnd_at (c : Nat) : ∀ (l : List Nat) (h : fnd c l < l.length), l[fnd c l] = 97 + c
  | [], h => by simp at h
  | x :: l, h => by
    by_cases e : x = 97 + c
    · simp [fnd, e]
    · have hx : fnd c (x :: l) = fnd c l + 1 := by rw [fnd, if_neg e]
      have hl : fnd c l < l.length := by rw [hx] at h; simpa using h
      have := fnd_at c l hl
      simp only [hx, List.getElem_cons_succ]; exact this
theorem fnd_drop {c : Nat} {l : List Nat} (h : fnd c l < l.length) : l.drop (fnd c l) = (97 + c) :: l.drop (fnd c l + 1) := by
  rw [List.drop_eq_getElem_cons h, fnd_at c l h]

/-- A word is a subsequence exactly if its first letter is there and the rest is one of what follows. -/
theorem sub_cons (c : Nat) (u : List Nat) : ∀ l : List Nat, ((97 + c) :: u).Sublist l ↔ fnd c l < l.length ∧ u.Sublist (l.drop (fnd c l + 1))
  | [] => by simp
  | x :: l => by
    by_cases e : x = 97 + c
    · subst e
      simp [fnd]
    · rw [fnd, if_neg e]
      simp only [List.length_cons, List.drop_succ_cons]
      rw [List.sublist_cons_iff, sub_cons c u l]
      constructor
      · rintro (h | ⟨r, h, _⟩)
        · exact ⟨by omega, h.2⟩
        · exact absurd (List.cons.inj h).1.symm e
      · intro h
        exact .inl ⟨by omega, h.2⟩
theorem nil_sub (l : List Nat) : ([] : List Nat).Sublist l := List.nil_sublist l

theorem nx_lt (l : List Nat) (c i : Nat) (hi : i ≤ l.length) : nx l c i < l.length ↔ fnd c (l.drop i) < (l.drop i).length := by
  rw [List.length_drop]; unfold nx; omega
theorem nx_dropn (l : List Nat) (c i : Nat) : (l.drop i).drop (fnd c (l.drop i) + 1) = l.drop (nx l c i + 1) := by
  rw [List.drop_drop]; rfl
theorem sub_nx (l u : List Nat) (c i : Nat) (hi : i ≤ l.length) : ((97 + c) :: u).Sublist (l.drop i) ↔ nx l c i < l.length ∧ u.Sublist (l.drop (nx l c i + 1)) := by
  rw [sub_cons, nx_lt l c i hi, nx_dropn]

theorem wn_sub : ∀ (u l : List Nat) (i : Nat), Lt 4 u → i ≤ l.length → ((wn u l i).isSome = true ↔ u.Sublist (l.drop i))
  | [], _, _, _, _ => by simp [wn]
  | x :: u, l, i, hu, hi => by
    obtain ⟨c, rfl⟩ : ∃ c, x = 97 + c := ⟨x - 97, by have := hu.head; omega⟩
    rw [sub_nx l u c i hi, wn, show 97 + c - 97 = c by omega]
    by_cases h : nx l c i < l.length
    · rw [if_pos h, Option.isSome_map, wn_sub u l _ hu.tail (by omega)]
      simp [h]
    · rw [if_neg h]; simp [h]

/-! ### Ranks -/
def rk : List Nat → List Nat → Option Nat
  | [], _ => some 0
  | x :: u, l => if fnd (x - 97) l < l.length then (rk u (l.drop (fnd (x - 97) l + 1))).map (pc l (x - 97) + ·) else none

theorem ix_rk : ∀ (u l : List Nat) (i acc : Nat), i ≤ l.length → ix u l i acc = (rk u (l.drop i)).map (acc + ·)
  | [], _, _, _, _ => by simp [ix, rk]
  | x :: u, l, i, acc, hi => by
    rw [ix, rk]
    by_cases h : nx l (x - 97) i < l.length
    · rw [if_pos h, if_pos ((nx_lt l _ i hi).1 h), ix_rk u l _ _ (by omega), nx_dropn, Option.map_map]
      congr 1
      funext n
      simp; omega
    · rw [if_neg h, if_neg (fun h' => h ((nx_lt l _ i hi).2 h'))]; rfl

theorem itm_rk : ∀ (n : Nat) (l : List Nat) (k : Nat), l.length ≤ n → k < cn l → rk (itm l k) l = some k := by
  intro n
  induction n with
  | zero =>
    intro l k hl hk
    have : l = [] := List.length_eq_zero_iff.1 (by omega)
    subst this
    have : k = 0 := by have : cn [] = 1 := rfl; omega
    subst this
    rw [itm_zero, rk]
  | succ n ih =>
    intro l k hl hk
    by_cases h0 : k = 0
    · subst h0; rw [itm_zero, rk]
    · obtain ⟨h1, h2, h3, h4⟩ := sel_spec (by omega) hk
      rw [itm_step (by omega) hk, rk, show 97 + sel l k - 97 = sel l k by omega, if_pos h3, ih _ _ (by rw [List.length_drop]; omega) h4]
      simp; omega

theorem itm_lt : ∀ (n : Nat) (l : List Nat) (k : Nat), l.length ≤ n → k < cn l → Lt 4 (itm l k) := by
  intro n
  induction n with
  | zero =>
    intro l k hl hk
    have : l = [] := List.length_eq_zero_iff.1 (by omega)
    subst this
    have : k = 0 := by have : cn [] = 1 := rfl; omega
    subst this
    rw [itm_zero]; intro x hx; cases hx
  | succ n ih =>
    intro l k hl hk
    by_cases h0 : k = 0
    · subst h0; rw [itm_zero]; intro x hx; cases hx
    · obtain ⟨h1, h2, h3, h4⟩ := sel_spec (by omega) hk
      rw [itm_step (by omega) hk]
      intro x hx
      rcases List.mem_cons.1 hx with rfl | hx
      · have := sel_lt l k; omega
      · exact ih _ _ (by rw [List.length_drop]; omega) h4 x hx

theorem rk_sub : ∀ (u l : List Nat), Lt 4 u → ((rk u l).isSome = true ↔ u.Sublist l)
  | [], _, _ => by simp [rk]
  | x :: u, l, hu => by
    obtain ⟨c, rfl⟩ : ∃ c, x = 97 + c := ⟨x - 97, by have := hu.head; omega⟩
    rw [sub_cons, rk, show 97 + c - 97 = c by omega]
    by_cases h : fnd c l < l.length
    · rw [if_pos h, Option.isSome_map, rk_sub u _ hu.tail]
      simp [h]
    · rw [if_neg h]; simp [h]

theorem pc_mono_le (l : List Nat) (a : Nat) : ∀ b, a ≤ b → pc l a ≤ pc l b
  | 0, h => by obtain rfl : a = 0 := by omega
               exact Nat.le_refl _
  | b + 1, h => by
    by_cases e : a = b + 1
    · subst e; exact Nat.le_refl _
    · exact Nat.le_trans (pc_mono_le l a b (by omega)) (pc_mono l b)
theorem pc_pos (l : List Nat) : ∀ k, 1 ≤ pc l k
  | 0 => Nat.le_refl _
  | k + 1 => Nat.le_trans (pc_pos l k) (pc_mono l k)
/-- The rank of a subsequence, and that the item with this rank is the subsequence. -/
theorem rk_itm : ∀ (u l : List Nat) (r : Nat), Lt 4 u → rk u l = some r → r < cn l ∧ itm l r = u
  | [], l, r, _, h => by
    rw [rk] at h
    obtain rfl : 0 = r := by simpa using h
    exact ⟨cn_pos l, itm_zero l⟩
  | x :: u, l, r, hu, h => by
    obtain ⟨c, rfl⟩ : ∃ c, x = 97 + c := ⟨x - 97, by have := hu.head; omega⟩
    rw [rk, show 97 + c - 97 = c by omega] at h
    by_cases hf : fnd c l < l.length
    · rw [if_pos hf] at h
      obtain ⟨q, hq, rfl⟩ := Option.map_eq_some_iff.1 h
      obtain ⟨h1, h2⟩ := rk_itm u _ q hu.tail hq
      have hc := hu.head
      have htm : tm l c = cn (l.drop (fnd c l + 1)) := by unfold tm; rw [if_pos hf]
      have hlt : pc l c + q < pc l (c + 1) := by rw [pc, htm]; omega
      have hle := pc_le l (c + 1) (by omega)
      have hpos := pc_pos l c
      have hs : sel l (pc l c + q) = c := sel_of (by omega) (by omega) hlt
      refine ⟨by omega, ?_⟩
      rw [itm_step (by omega) (by omega), hs, show pc l c + q - pc l c = q by omega, h2]
    · rw [if_neg hf] at h; cases h

theorem itm_sub (l : List Nat) (k : Nat) (hk : k < cn l) : (itm l k).Sublist l :=
  (rk_sub _ _ (itm_lt _ l k (Nat.le_refl _) hk)).1 (by rw [itm_rk _ l k (Nat.le_refl _) hk]; rfl)

/-- The items are in the order of strings. -/
theorem itm_mono : ∀ (n : Nat) (l : List Nat) (j k : Nat), l.length ≤ n → j < k → k < cn l → itm l j < itm l k := by
  intro n
  induction n with
  | zero =>
    intro l j k hl hj hk
    have : l = [] := List.length_eq_zero_iff.1 (by omega)
    subst this
    have : cn [] = 1 := rfl
    omega
  | succ n ih =>
    intro l j k hl hj hk
    obtain ⟨h1, h2, h3, h4⟩ := sel_spec (l := l) (k := k) (by omega) hk
    rw [itm_step (k := k) (by omega) hk]
    by_cases h0 : j = 0
    · subst h0; rw [itm_zero]; exact List.nil_lt_cons _ _
    · obtain ⟨g1, g2, g3, g4⟩ := sel_spec (l := l) (k := j) (by omega) (by omega)
      rw [itm_step (k := j) (by omega) (by omega)]
      have hle : sel l j ≤ sel l k := by
        unfold sel
        have a0 : pc l 0 ≤ pc l 1 := pc_mono l 0
        have a1 : pc l 1 ≤ pc l 2 := pc_mono l 1
        have a2 : pc l 2 ≤ pc l 3 := pc_mono l 2
        repeat' split
        all_goals omega
      by_cases he : sel l j = sel l k
      · rw [he] at g1 g2 g3 g4 ⊢
        rw [List.cons_lt_cons_iff]
        exact .inr ⟨rfl, ih _ _ _ (by rw [List.length_drop]; omega) (by omega) h4⟩
      · rw [List.cons_lt_cons_iff]
        exact .inl (by omega)

/-- There are as many items as subsequences. -/
theorem all_count (l : List Nat) (hl : Lt 4 l) (all : List (List Nat)) (hn : all.Nodup) (h : ∀ u, u ∈ all ↔ u.Sublist l) : all.length = cn l := by
  have hperm : all.Perm ((List.range (cn l)).map (itm l)) := by
    rw [List.perm_ext_iff_of_nodup hn]
    · intro u
      rw [h, List.mem_map]
      constructor
      · intro hu
        have hlu := hl.sub hu
        obtain ⟨r, hr⟩ := Option.isSome_iff_exists.1 ((rk_sub u l hlu).2 hu)
        obtain ⟨h1, h2⟩ := rk_itm u l r hlu hr
        exact ⟨r, List.mem_range.2 h1, h2⟩
      · rintro ⟨r, hr, rfl⟩
        exact itm_sub l r (List.mem_range.1 hr)
    · unfold List.Nodup
      rw [List.pairwise_map]
      refine (List.pairwise_lt_range (n := cn l)).imp_of_mem fun {a b} ha hb hlt e => ?_
      have h1 := itm_rk _ l a (Nat.le_refl _) (List.mem_range.1 ha)
      have h2 := itm_rk _ l b (Nat.le_refl _) (List.mem_range.1 hb)
      rw [e, h2] at h1
      have := Option.some.inj h1
      omega
  rw [hperm.length_eq]; simp
end Go.Proofs.Ytfjbodaakmapdaa.Th
