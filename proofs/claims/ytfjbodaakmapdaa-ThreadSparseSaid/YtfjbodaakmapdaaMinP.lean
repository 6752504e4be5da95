/-
  Plain laws on the minimal words of a family.
-/
import Derived.Test.YtfjbodaakmapdaaMin
namespace Go.Proofs.Ytfjbodaakmapdaa
open Go.RowKit Go.Shelf Go.Lib Th Kit

/-- Ascending by length and then as strings, none twice. -/
def SSo (l : List ByteArray) : Prop := l.Pairwise fun x y => ltOf blC x y = true
theorem lt_irr (x : ByteArray) : ltOf blC x x = false := blC_swo.irrefl x
theorem lt_asym {x y : ByteArray} (h : ltOf blC x y = true) : ltOf blC y x = false := by
  cases h2 : ltOf blC y x with
  | false => rfl
  | true => have := blC_swo.trans x y x h h2; rw [lt_irr] at this; cases this
theorem sso_ext : ∀ {a b : List ByteArray}, SSo a → SSo b → (∀ x, x ∈ a ↔ x ∈ b) → a = b
  | [], [], _, _, _ => rfl
  | [], y :: b, _, _, h => by have := (h y).2 List.mem_cons_self; cases this
  | x :: a, [], _, _, h => by have := (h x).1 List.mem_cons_self; cases this
  | x :: a, y :: b, ha, hb, h => by
    unfold SSo at ha hb
    rw [List.pairwise_cons] at ha hb
    have hxy : x = y := by
      by_cases e : x = y
      · exact e
      · have h1 : x ∈ b := ((List.mem_cons.1 ((h x).1 List.mem_cons_self)).resolve_left e)
        have h2 : y ∈ a := ((List.mem_cons.1 ((h y).2 List.mem_cons_self)).resolve_left (fun h => e h.symm))
        have h3 := lt_asym (hb.1 x h1)
        rw [ha.1 y h2] at h3; cases h3
    subst hxy
    congr 1
    refine sso_ext ha.2 hb.2 fun z => ?_
    have hz := h z
    rw [List.mem_cons, List.mem_cons] at hz
    constructor
    · intro hm
      rcases hz.1 (.inr hm) with rfl | h
      · have := ha.1 z hm; rw [lt_irr] at this; cases this
      · exact h
    · intro hm
      rcases hz.2 (.inr hm) with rfl | h
      · have := hb.1 z hm; rw [lt_irr] at this; cases this
      · exact h

/-! ### The words in their order -/
theorem ins_mem (l : List ByteArray) (x : ByteArray) : x ∈ (Sort.insertionSort (ltOf blC) l.toArray 0 l.length).toList ↔ x ∈ l := by
  have h := (Sort.insertionSort_holds (lt := ltOf blC) blC_swo l.toArray 0 l.length (Nat.zero_le _) (by simp)).1
  have hs := ins_size l
  have e1 : ∀ d : Array ByteArray, d.size = l.length → (d.extract 0 l.length) = d := fun d hd => by
    rw [← hd, Array.extract_size]
  have hp := h.2.2
  rw [e1 _ hs, e1 _ (by simp)] at hp
  exact hp.mem_iff
theorem ins_sorted (l : List ByteArray) (i j : Nat) (hij : i < j) (hj : j < l.length) : ltOf blC (Sort.insertionSort (ltOf blC) l.toArray 0 l.length)[j]! (Sort.insertionSort (ltOf blC) l.toArray 0 l.length)[i]! = false :=
  (Sort.insertionSort_holds (lt := ltOf blC) blC_swo l.toArray 0 l.length (Nat.zero_le _) (by simp)).2 i j (Nat.zero_le _) hij hj

theorem comp_first (d : Array ByteArray) : ∀ j, ∃ i, i ≤ j ∧ Lib.keeps d i = true ∧ d[i]! = d[j]!
  | 0 => ⟨0, Nat.le_refl _, keeps_lt_one d 0 (by omega), rfl⟩
  | j + 1 => by
    cases h : Lib.keeps d (j + 1) with
    | true => exact ⟨j + 1, Nat.le_refl _, h, rfl⟩
    | false =>
      obtain ⟨i, h1, h2, h3⟩ := comp_first d j
      have he : d[j + 1]! = d[j]! := by
        unfold Lib.keeps at h
        simpa using h
      exact ⟨i, by omega, h2, by rw [h3, he]⟩
theorem comp_ne (d : Array ByteArray) (j : Nat) (h : Lib.keeps d (j + 1) = true) : d[j + 1]! ≠ d[j]! := by
  unfold Lib.keeps at h
  simpa using h

theorem mnC_mem (l : List ByteArray) (x : ByteArray) : x ∈ mnC l ↔ x ∈ l := by
  have hs := ins_size l
  rw [← ins_mem l x]
  unfold mnC compactUpTo
  generalize Sort.insertionSort (ltOf blC) l.toArray 0 l.length = d at hs ⊢
  rw [List.mem_map]
  constructor
  · rintro ⟨i, hi, rfl⟩
    have := List.mem_range.1 (List.mem_filter.1 hi).1
    rw [getElem!_pos d i (by omega)]
    exact Array.mem_toList_iff.2 (Array.getElem_mem _)
  · intro hx
    obtain ⟨j, hj, rfl⟩ := List.getElem_of_mem hx
    rw [Array.length_toList] at hj
    obtain ⟨i, h1, h2, h3⟩ := comp_first d j
    refine ⟨i, List.mem_filter.2 ⟨List.mem_range.2 (by omega), h2⟩, ?_⟩
    rw [h3, getElem!_pos d j hj]; simp
theorem mnC_sso (l : List ByteArray) : SSo (mnC l) := by
  have hs := ins_size l
  have hso := ins_sorted l
  unfold mnC compactUpTo SSo
  generalize Sort.insertionSort (ltOf blC) l.toArray 0 l.length = d at hs hso ⊢
  rw [List.pairwise_map]
  refine ((List.pairwise_lt_range (n := l.length)).filter (Lib.keeps d)).imp_of_mem fun {i j} hi hj hij => ?_
  have hjl := List.mem_range.1 (List.mem_filter.1 hj).1
  have hk := (List.mem_filter.1 hj).2
  cases hlt : ltOf blC d[i]! d[j]! with
  | true => rfl
  | false =>
    exfalso
    obtain ⟨j, rfl⟩ : ∃ q, j = q + 1 := ⟨j - 1, by omega⟩
    have he := blC_total _ _ hlt (hso i (j + 1) hij hjl)
    have hne := comp_ne d j hk
    by_cases e : i = j
    · subst e; exact hne he.symm
    · have h1 := hso i j (by omega) (by omega)
      have h2 := hso j (j + 1) (by omega) hjl
      rw [← he] at h2 hne
      exact hne (blC_total _ _ h2 h1)

/-! ### The minimal ones -/
/-- No other word of the list is a subsequence. -/
def Mi (l : List ByteArray) (s : ByteArray) : Prop := ∀ t ∈ l, (bl t).Sublist (bl s) → t = s
theorem bl_inj {s t : ByteArray} (h : bl s = bl t) : s = t := by rw [← str_bl s, ← str_bl t, h]
theorem sub_lt {s t : ByteArray} (h : (bl t).Sublist (bl s)) (hne : t ≠ s) : t.size < s.size := by
  have h1 := h.length_le
  rw [bl_len, bl_len] at h1
  by_cases e : t.size < s.size
  · exact e
  · exact absurd (bl_inj (h.eq_of_length (by rw [bl_len, bl_len]; omega))) hne
theorem min_ex (l : List ByteArray) : ∀ (n : Nat) (t : ByteArray), t.size ≤ n → t ∈ l → ∃ m, m ∈ l ∧ Mi l m ∧ (bl m).Sublist (bl t)
  | n, t, hn, ht => by
    by_cases h : Mi l t
    · exact ⟨t, ht, h, List.Sublist.refl _⟩
    · unfold Mi at h
      simp only [Classical.not_forall] at h
      obtain ⟨u, hu, hs, hne⟩ := h
      have hlt := sub_lt hs hne
      cases n with
      | zero => omega
      | succ n =>
        obtain ⟨m, h1, h2, h3⟩ := min_ex l n u (by omega) hu
        exact ⟨m, h1, h2, h3.trans hs⟩
theorem wiB_iff (t s : ByteArray) (ht : isW t = true) (hs : isW s = true) : wiB t s = true ↔ (bl t).Sublist (bl s) := by
  have h1 := wn_sub (bl t) (bl s) 0 (lt_of_isW ht) (Nat.zero_le _)
  rw [List.drop_zero] at h1
  rw [← h1]
  unfold wiB Given.thread_Within.f
  rw [if_pos ht, if_pos hs]
  cases wn (bl t) (bl s) 0 <;> simp

theorem mnF_spec (C : List ByteArray) (hw : ∀ x ∈ C, isW x = true) (hso : SSo C) : ∀ (cs done out : List ByteArray), C = done ++ cs → out.Sublist done → (∀ x, x ∈ out ↔ x ∈ done ∧ Mi C x) →
    (mnF out cs).Sublist C ∧ ∀ x, x ∈ mnF out cs ↔ x ∈ C ∧ Mi C x
  | [], done, out, e, hsub, hm => by
    rw [List.append_nil] at e
    subst e
    rw [mnF]
    exact ⟨hsub, hm⟩
  | s :: cs, done, out, e, hsub, hm => by
    have hsC : s ∈ C := by rw [e]; simp
    have hparts : (∀ t ∈ done, ltOf blC t s = true) ∧ (∀ t ∈ cs, ltOf blC s t = true) := by
      unfold SSo at hso
      rw [e, List.pairwise_append] at hso
      exact ⟨fun t ht => hso.2.2 t ht s List.mem_cons_self, fun t ht => (List.pairwise_cons.1 hso.2.1).1 t ht⟩
    have key : out.any (fun t => wiB t s) = true ↔ ¬ Mi C s := by
      rw [List.any_eq_true]
      constructor
      · rintro ⟨t, ht, hwi⟩ hmi
        have htd := ((hm t).1 ht).1
        have htC : t ∈ C := by rw [e]; exact List.mem_append_left _ htd
        have := hmi t htC ((wiB_iff t s (hw t htC) (hw s hsC)).1 hwi)
        subst this
        have := hparts.1 t htd
        rw [lt_irr] at this; cases this
      · intro hmi
        unfold Mi at hmi
        simp only [Classical.not_forall] at hmi
        obtain ⟨u, hu, hs, hne⟩ := hmi
        obtain ⟨m, h1, h2, h3⟩ := min_ex C u.size u (Nat.le_refl _) hu
        have hms := h3.trans hs
        have hne2 : m ≠ s := by
          rintro rfl
          have := sub_lt hs hne
          have h4 := h3.length_le
          rw [bl_len, bl_len] at h4
          omega
        have hlt := sub_lt hms hne2
        refine ⟨m, (hm m).2 ⟨?_, h2⟩, (wiB_iff m s (hw m h1) (hw s hsC)).2 hms⟩
        rw [e] at h1
        rcases List.mem_append.1 h1 with h | h
        · exact h
        · rcases List.mem_cons.1 h with rfl | h
          · exact absurd rfl hne2
          · have := hparts.2 m h
            rw [blC_lt] at this
            omega
    rw [mnF]
    by_cases ha : out.any (fun t => wiB t s) = true
    · rw [if_pos ha]
      refine mnF_spec C hw hso cs (done ++ [s]) out (by rw [e]; simp) (hsub.trans (List.sublist_append_left _ _)) (fun x => ?_)
      rw [hm, List.mem_append, List.mem_singleton]
      constructor
      · rintro ⟨h1, h2⟩; exact ⟨.inl h1, h2⟩
      · rintro ⟨h1 | rfl, h2⟩
        · exact ⟨h1, h2⟩
        · exact absurd h2 (key.1 ha)
    · rw [if_neg ha]
      have hmi : Mi C s := by
        by_cases h : Mi C s
        · exact h
        · exact absurd (key.2 h) ha
      refine mnF_spec C hw hso cs (done ++ [s]) (out ++ [s]) (by rw [e]; simp) (hsub.append (List.Sublist.refl _)) (fun x => ?_)
      rw [List.mem_append, List.mem_append, hm, List.mem_singleton]
      constructor
      · rintro (⟨h1, h2⟩ | rfl)
        · exact ⟨.inl h1, h2⟩
        · exact ⟨.inr rfl, hmi⟩
      · rintro ⟨h1 | rfl, h2⟩
        · exact .inl ⟨h1, h2⟩
        · exact .inr rfl

/-- What Minimal returns of a family: ascending, and just the minimal ones. -/
def mnl (l : List ByteArray) : List ByteArray := mnF [] (mnC l)
theorem mnl_spec (l : List ByteArray) (hw : ∀ x ∈ l, isW x = true) : SSo (mnl l) ∧ ∀ x, x ∈ mnl l ↔ x ∈ l ∧ Mi l x := by
  have h := mnF_spec (mnC l) (fun x hx => hw x ((mnC_mem l x).1 hx)) (mnC_sso l) (mnC l) [] [] rfl (List.Sublist.refl _) (fun x => by simp)
  have hmi : ∀ x, Mi (mnC l) x ↔ Mi l x := fun x => by
    unfold Mi
    exact ⟨fun h t ht => h t ((mnC_mem l t).2 ht), fun h t ht => h t ((mnC_mem l t).1 ht)⟩
  refine ⟨(mnC_sso l).sublist h.1, fun x => ?_⟩
  show x ∈ mnF [] (mnC l) ↔ _
  rw [h.2 x, mnC_mem, hmi]

/-- An element put in its place. -/
theorem sso_insert {l : List ByteArray} {x : ByteArray} (h : SSo l) (p : Nat) (hp : p ≤ l.length) (h1 : ∀ y ∈ l.take p, ltOf blC y x = true) (h2 : ∀ y, l[p]? = some y → ltOf blC y x = false) (hx : x ∉ l) :
    SSo (l.take p ++ [x] ++ l.drop p) := by
  unfold SSo at h ⊢
  have hall : ∀ y ∈ l.drop p, ltOf blC x y = true := by
    intro y hy
    by_cases hpl : p < l.length
    · have hd := List.drop_eq_getElem_cons hpl
      have hgt : ltOf blC x l[p] = true := by
        cases hlt : ltOf blC x l[p] with
        | true => rfl
        | false =>
          have := blC_total _ _ hlt (h2 l[p] (List.getElem?_eq_getElem hpl))
          exact absurd (this ▸ List.getElem_mem hpl) hx
      rw [hd] at hy
      rcases List.mem_cons.1 hy with rfl | hy
      · exact hgt
      · have hp2 := List.Pairwise.drop (i := p) h
        rw [hd, List.pairwise_cons] at hp2
        exact blC_swo.trans _ _ _ hgt (hp2.1 y hy)
    · rw [List.drop_eq_nil_of_le (by omega)] at hy; cases hy
  have hsplit := h
  rw [← List.take_append_drop p l, List.pairwise_append] at hsplit
  rw [List.append_assoc, List.pairwise_append]
  refine ⟨hsplit.1, ?_, fun a ha b hb => ?_⟩
  · rw [List.singleton_append, List.pairwise_cons]
    exact ⟨hall, hsplit.2.1⟩
  · rcases List.mem_append.1 hb with hb | hb
    · rw [List.mem_singleton.1 hb]; exact h1 a ha
    · exact hsplit.2.2 a ha b hb
end Go.Proofs.Ytfjbodaakmapdaa
