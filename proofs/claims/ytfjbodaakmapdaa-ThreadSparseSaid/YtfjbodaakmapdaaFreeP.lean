/-
  Plain laws on the numbers of words without a family.
-/
import Derived.Test.YtfjbodaakmapdaaMinP
namespace Go.Proofs.Ytfjbodaakmapdaa
open Go.RowKit Go.Shelf Go.Lib Th Kit

/-- Marks that fit a family: none is complete. -/
def VM (ws : List (List Nat)) (m : List Nat) : Prop := ws.length ≤ m.length ∧ ∀ (j : Nat) (w : List Nat), ws[j]? = some w → m.getD j 0 < w.length
/-- A word that completes no word of the family from these marks on. -/
def AvW (ws : List (List Nat)) (m : List Nat) (x : List Nat) : Prop := ∀ (j : Nat) (w : List Nat), ws[j]? = some w → ¬ (w.drop (m.getD j 0)).Sublist x

theorem getD_set_ne (m : List Nat) (i j v : Nat) (h : i ≠ j) : (m.set i v).getD j 0 = m.getD j 0 := by
  rw [List.getD_eq_getElem?_getD, List.getElem?_set_ne h, ← List.getD_eq_getElem?_getD]
theorem getD_set_eq (m : List Nat) (i v : Nat) (h : i < m.length) : (m.set i v).getD i 0 = v := by
  rw [List.getD_eq_getElem?_getD, List.getElem?_set_self h]; rfl

theorem mgo_spec (c : Nat) : ∀ (ws : List (List Nat)) (m : List Nat) (i : Nat), i + ws.length ≤ m.length → (∀ j w, ws[j]? = some w → m.getD (i + j) 0 < w.length) →
    ((mgo c ws m i).2 = true ↔ ∀ j w, ws[j]? = some w → ¬ (w.getD (m.getD (i + j) 0) 0 = c ∧ m.getD (i + j) 0 + 1 = w.length)) ∧
    ((mgo c ws m i).2 = true → ∀ j w, ws[j]? = some w → (mgo c ws m i).1.getD (i + j) 0 = if w.getD (m.getD (i + j) 0) 0 = c then m.getD (i + j) 0 + 1 else m.getD (i + j) 0)
  | [], m, i, _, _ => ⟨⟨fun _ j w h => by simp at h, fun _ => rfl⟩, fun _ j w h => by simp at h⟩
  | w :: ws, m, i, hil, hlt => by
    simp only [List.length_cons] at hil
    have h0 := hlt 0 w rfl
    simp only [Nat.add_zero] at h0
    rw [mgo]
    by_cases hc : w.getD (m.getD i 0) 0 = c
    · rw [if_pos hc]
      by_cases hf : m.getD i 0 + 1 = w.length
      · rw [if_pos hf]
        exact ⟨⟨fun h => (by cases h), fun h => (h 0 w rfl ⟨hc, hf⟩).elim⟩, fun h => (by cases h)⟩
      · rw [if_neg hf]
        have hne : ∀ j, (m.set i (m.getD i 0 + 1)).getD (i + 1 + j) 0 = m.getD (i + (j + 1)) 0 := fun j => by
          rw [getD_set_ne _ _ _ _ (by omega), show i + 1 + j = i + (j + 1) by omega]
        have hlt2 : ∀ j v, ws[j]? = some v → (m.set i (m.getD i 0 + 1)).getD (i + 1 + j) 0 < v.length := fun j v hv => by
          rw [hne]; exact hlt (j + 1) v hv
        have ih := mgo_spec c ws (m.set i (m.getD i 0 + 1)) (i + 1) (by rw [List.length_set]; omega) hlt2
        have ok := mgo_ok c ws (m.set i (m.getD i 0 + 1)) (i + 1) (by rw [List.length_set]; omega) hlt2
        refine ⟨ih.1.trans ⟨fun h j v hv => ?_, fun h j v hv => ?_⟩, fun h j v hv => ?_⟩
        · cases j with
          | zero => cases hv; rintro ⟨_, h2⟩; exact hf h2
          | succ j => have := h j v hv; rwa [hne] at this
        · have := h (j + 1) v hv; rwa [hne]
        · cases j with
          | zero =>
            cases hv
            simp only [Nat.add_zero]
            rw [if_pos hc, (ok h).2 i (by omega), getD_set_eq _ _ _ (by omega)]
          | succ j =>
            have := ih.2 h j v hv
            rw [hne, show i + 1 + j = i + (j + 1) by omega] at this
            exact this
    · rw [if_neg hc]
      have hne : ∀ j, m.getD (i + 1 + j) 0 = m.getD (i + (j + 1)) 0 := fun j => by
        rw [show i + 1 + j = i + (j + 1) by omega]
      have hlt2 : ∀ j v, ws[j]? = some v → m.getD (i + 1 + j) 0 < v.length := fun j v hv => by
        rw [hne]; exact hlt (j + 1) v hv
      have ih := mgo_spec c ws m (i + 1) (by omega) hlt2
      have ok := mgo_ok c ws m (i + 1) (by omega) hlt2
      refine ⟨ih.1.trans ⟨fun h j v hv => ?_, fun h j v hv => ?_⟩, fun h j v hv => ?_⟩
      · cases j with
        | zero => cases hv; rintro ⟨h2, _⟩; exact hc h2
        | succ j => have := h j v hv; rwa [hne] at this
      · have := h (j + 1) v hv; rwa [hne]
      · cases j with
        | zero =>
          cases hv
          simp only [Nat.add_zero]
          rw [if_neg hc, (ok h).2 i (by omega)]
        | succ j =>
          have := ih.2 h j v hv
          rw [hne, show i + 1 + j = i + (j + 1) by omega] at this
          exact this

theorem sub_step (w x : List Nat) (p c : Nat) (h : p < w.length) : (w.drop p).Sublist (c :: x) ↔ (w.drop (if w.getD p 0 = c then p + 1 else p)).Sublist x := by
  have e : w.getD p 0 = w[p] := by simp [List.getD, h]
  rw [e]
  by_cases hc : w[p] = c
  · rw [if_pos hc, List.drop_eq_getElem_cons h, hc, List.cons_sublist_cons]
  · rw [if_neg hc, List.drop_eq_getElem_cons h]
    constructor
    · intro hs
      cases hs with
      | cons _ hs => exact hs
      | cons_cons _ hs => exact absurd rfl hc
    · intro hs; exact hs.cons _
theorem av_nil {ws : List (List Nat)} {m : List Nat} (h : VM ws m) : AvW ws m [] := fun j w hw hs => by
  have h1 := h.2 j w hw
  have h2 := hs.length_le
  rw [List.length_drop, List.length_nil] at h2
  omega
theorem vm_step {ws : List (List Nat)} {m : List Nat} (h : VM ws m) (c : Nat) (ho : (mgo c ws m 0).2 = true) : VM ws (mgo c ws m 0).1 := by
  have ok := mgo_ok c ws m 0 (by have := h.1; omega) (fun j w hw => by rw [Nat.zero_add]; exact h.2 j w hw) ho
  refine ⟨by rw [mgo_length]; exact h.1, fun j w hw => ?_⟩
  have := ok.1 j w hw
  rwa [Nat.zero_add] at this
theorem av_step {ws : List (List Nat)} {m : List Nat} (h : VM ws m) (c : Nat) (x : List Nat) : AvW ws m (c :: x) ↔ (mgo c ws m 0).2 = true ∧ AvW ws (mgo c ws m 0).1 x := by
  have sp := mgo_spec c ws m 0 (by have := h.1; omega) (fun j w hw => by rw [Nat.zero_add]; exact h.2 j w hw)
  simp only [Nat.zero_add] at sp
  constructor
  · intro ha
    have ho : (mgo c ws m 0).2 = true := by
      rw [sp.1]
      rintro j w hw ⟨h1, h2⟩
      apply ha j w hw
      rw [sub_step w x _ c (h.2 j w hw), if_pos h1, List.drop_eq_nil_of_le (by omega)]
      exact List.nil_sublist _
    refine ⟨ho, fun j w hw hs => ?_⟩
    apply ha j w hw
    rw [sub_step w x _ c (h.2 j w hw), ← sp.2 ho j w hw]
    exact hs
  · rintro ⟨ho, ha⟩ j w hw hs
    rw [sub_step w x _ c (h.2 j w hw), ← sp.2 ho j w hw] at hs
    exact ha j w hw hs

/-- Families that the same words avoid have the same numbers. -/
theorem wcount_congr (k : Nat) : ∀ (n : Nat) (ws ws' : List (List Nat)) (m m' : List Nat), VM ws m → VM ws' m' → (∀ x, AvW ws m x ↔ AvW ws' m' x) → wcount ws k n m = wcount ws' k n m'
  | 0, _, _, _, _, _, _, _ => rfl
  | n + 1, ws, ws', m, m', hv, hv', hx => by
    rw [wcount, wcount]
    have key : ∀ c, wpart ws (wcount ws k n) m c = wpart ws' (wcount ws' k n) m' c := by
      intro c
      induction c with
      | zero => rfl
      | succ c ih =>
        rw [wpart, wpart, ih]
        congr 1
        unfold wterm
        have e1 : AvW ws m [97 + c] ↔ (mgo (97 + c) ws m 0).2 = true := by
          rw [av_step hv]
          exact ⟨fun h => h.1, fun h => ⟨h, av_nil (vm_step hv _ h)⟩⟩
        have e2 : AvW ws' m' [97 + c] ↔ (mgo (97 + c) ws' m' 0).2 = true := by
          rw [av_step hv']
          exact ⟨fun h => h.1, fun h => ⟨h, av_nil (vm_step hv' _ h)⟩⟩
        by_cases h1 : (mgo (97 + c) ws m 0).2 = true
        · have h2 := e2.1 ((hx _).1 (e1.2 h1))
          rw [if_pos h1, if_pos h2]
          refine wcount_congr k n ws ws' _ _ (vm_step hv _ h1) (vm_step hv' _ h2) (fun x => ?_)
          have h3 := hx ((97 + c) :: x)
          rw [av_step hv, av_step hv'] at h3
          exact ⟨fun h => (h3.1 ⟨h1, h⟩).2, fun h => (h3.2 ⟨h2, h⟩).2⟩
        · have h2 : ¬ (mgo (97 + c) ws' m' 0).2 = true := fun h2 => h1 (e1.1 ((hx _).2 (e2.2 h2)))
          rw [if_neg h1, if_neg h2]
    exact key k

theorem wpart_scale (ws : List (List Nat)) (f g : List Nat → Nat) (K : Nat) (m : List Nat) (h : ∀ m, f m ≤ K * g m) : ∀ c, wpart ws f m c ≤ K * wpart ws g m c
  | 0 => by simp [wpart]
  | c + 1 => by
    have h1 := wpart_scale ws f g K m h c
    have h2 : wterm ws f m c ≤ K * wterm ws g m c := by
      unfold wterm
      split
      · exact h _
      · omega
    rw [wpart, wpart, Nat.mul_add]; omega
theorem wcount_step (ws : List (List Nat)) (k : Nat) : ∀ n m, wcount ws k (n + 1) m ≤ k * wcount ws k n m
  | 0, m => by
    have := wpart_le ws (wcount ws k 0) m 1 (fun m => by simp [wcount]) k
    rw [wcount]; simpa [wcount] using this
  | n + 1, m => by
    rw [wcount, wcount]
    exact wpart_scale ws (wcount ws k (n + 1)) (wcount ws k n) k m (wcount_step ws k n) k

theorem z4 (j : Nat) : ([0, 0, 0, 0] : List Nat).getD j 0 = 0 := by
  match j with
  | 0 => rfl
  | 1 => rfl
  | 2 => rfl
  | 3 => rfl
  | n + 4 => rfl
theorem vm_zero (l : List ByteArray) (hl : l.length ≤ 4) (he : hasEmpty l = false) : VM (l.map bl) [0, 0, 0, 0] := by
  refine ⟨by rw [List.length_map]; exact hl, fun j w hw => ?_⟩
  rw [z4]
  rw [List.getElem?_map, Option.map_eq_some_iff] at hw
  obtain ⟨s, hs, rfl⟩ := hw
  have hm := List.mem_of_getElem? hs
  unfold hasEmpty at he
  rw [List.any_eq_false] at he
  have h0 : ¬ s.size = 0 := fun h => he s hm (decide_eq_true h)
  rw [bl_len]
  omega
theorem av_zero (l : List ByteArray) (x : List Nat) : AvW (l.map bl) [0, 0, 0, 0] x ↔ ∀ s ∈ l, ¬ (bl s).Sublist x := by
  unfold AvW
  constructor
  · intro h s hs
    obtain ⟨j, hj, rfl⟩ := List.getElem_of_mem hs
    have := h j (bl l[j]) (by rw [List.getElem?_map, List.getElem?_eq_getElem hj]; rfl)
    rwa [z4, List.drop_zero] at this
  · intro h j w hw
    rw [List.getElem?_map, Option.map_eq_some_iff] at hw
    obtain ⟨s, hs, rfl⟩ := hw
    rw [z4, List.drop_zero]
    exact h s (List.mem_of_getElem? hs)
theorem empty_iff (l : List ByteArray) : hasEmpty l = true ↔ ∃ s ∈ l, s.size = 0 := by
  unfold hasEmpty; rw [List.any_eq_true]; simp

/-- The minimal words have the same numbers. -/
theorem fbase_min (l : List ByteArray) (hw : ∀ x ∈ l, isW x = true) (hl : l.length ≤ 4) (hm : (mnl l).length ≤ 4) (k j : Nat) : fbase (mnl l) k j = fbase l k j := by
  have sp := (mnl_spec l hw).2
  have ex : ∀ s ∈ l, ∃ t ∈ mnl l, (bl t).Sublist (bl s) := fun s hs => by
    obtain ⟨m, h1, h2, h3⟩ := min_ex l s.size s (Nat.le_refl _) hs
    exact ⟨m, (sp m).2 ⟨h1, h2⟩, h3⟩
  have he : hasEmpty (mnl l) = hasEmpty l := by
    rw [Bool.eq_iff_iff, empty_iff, empty_iff]
    constructor
    · rintro ⟨s, h1, h2⟩; exact ⟨s, ((sp s).1 h1).1, h2⟩
    · rintro ⟨s, h1, h2⟩
      obtain ⟨t, h3, h4⟩ := ex s h1
      have := h4.length_le
      rw [bl_len, bl_len] at this
      exact ⟨t, h3, by omega⟩
  unfold fbase
  rw [he]
  cases h : hasEmpty l with
  | true => rfl
  | false =>
    rw [if_neg (by simp), if_neg (by simp)]
    refine wcount_congr k j _ _ _ _ (vm_zero _ hm (he.trans h)) (vm_zero _ hl h) (fun x => ?_)
    rw [av_zero, av_zero]
    constructor
    · intro ha s hs hx
      obtain ⟨t, h3, h4⟩ := ex s hs
      exact ha t h3 (h4.trans hx)
    · intro ha s hs
      exact ha s ((sp s).1 hs).1
theorem freeOut_min (l : List ByteArray) (hw : ∀ x ∈ l, isW x = true) (hl : l.length ≤ 4) (hm : (mnl l).length ≤ 4) (k n : Nat) : freeOut (mnl l) k n = freeOut l k n := by
  unfold freeOut
  exact List.map_congr_left (fun j _ => fbase_min l hw hl hm k j)
theorem fbase_zero (l : List ByteArray) (k : Nat) : fbase l k 0 ≤ 1 := by
  unfold fbase; split
  · omega
  · simp [wcount]
theorem fbase_step (l : List ByteArray) (k n : Nat) : fbase l k (n + 1) ≤ k * fbase l k n := by
  unfold fbase; split
  · omega
  · exact wcount_step _ k n _
theorem fbase_pow (l : List ByteArray) (k n : Nat) : fbase l k n ≤ k ^ n := by
  unfold fbase; split
  · omega
  · exact wcount_le _ k n _
end Go.Proofs.Ytfjbodaakmapdaa
