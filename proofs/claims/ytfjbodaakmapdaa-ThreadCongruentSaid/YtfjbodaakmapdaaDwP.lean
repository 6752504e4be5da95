/-
  Plain laws on the word that tells two words apart: it is a subsequence of one of them only, and no shorter word is.
-/
import Derived.Test.YtfjbodaakmapdaaTb
import Derived.Test.YtfjbodaakmapdaaTc
namespace Go.Proofs.Ytfjbodaakmapdaa
open Go.RowKit Th Kit

/-- The position behind a word's letters, from a position on. -/
def rs (l : List Nat) : List Nat → Nat → Option Nat
  | [], i => some i
  | x :: u, i => if nx l (x - 97) i < l.length then rs l u (nx l (x - 97) i + 1) else none
theorem rs_sub (l : List Nat) : ∀ (u : List Nat) (i : Nat), Lt 4 u → i ≤ l.length → ((rs l u i).isSome = true ↔ u.Sublist (l.drop i))
  | [], _, _, _ => by simp [rs]
  | x :: u, i, hu, hi => by
    obtain ⟨c, rfl⟩ : ∃ c, x = 97 + c := ⟨x - 97, by have := hu.head; omega⟩
    rw [sub_nx l u c i hi, rs, show 97 + c - 97 = c by omega]
    by_cases h : nx l c i < l.length
    · rw [if_pos h, rs_sub l u _ hu.tail (by omega)]
      simp [h]
    · rw [if_neg h]; simp [h]
theorem rs_snoc (l : List Nat) (x : Nat) : ∀ (u : List Nat) (i : Nat), rs l (u ++ [x]) i = (rs l u i).bind fun j => if nx l (x - 97) j < l.length then some (nx l (x - 97) j + 1) else none
  | [], i => by simp [rs]
  | y :: u, i => by
    rw [List.cons_append, rs, rs]
    split
    · exact rs_snoc l x u _
    · rfl

/-- The first n letters of a pair of positions are done. -/
def Cl (x y : List Nat) (Q : List (Pr × List Nat)) (a : Pr × List Nat) (n : Nat) : Prop :=
  ∀ c, c < n → (nx x c a.1.1 < x.length ↔ nx y c a.1.2 < y.length) ∧ (nx x c a.1.1 < x.length → ∃ (k : Nat) (b : Pr × List Nat), Q[k]? = some b ∧ b.1 = (nx x c a.1.1 + 1, nx y c a.1.2 + 1) ∧ b.2.length ≤ a.2.length + 1)
theorem Cl.push {x y : List Nat} {Q : List (Pr × List Nat)} {a e : Pr × List Nat} {n : Nat} (h : Cl x y Q a n) : Cl x y (Q ++ [e]) a n := fun c hc => by
  obtain ⟨h1, h2⟩ := h c hc
  refine ⟨h1, fun h3 => ?_⟩
  obtain ⟨k, b, h4, h5⟩ := h2 h3
  exact ⟨k, b, by rw [List.getElem?_append_left (List.getElem?_eq_some_iff.1 h4).1]; exact h4, h5⟩

structure BI (x y : List Nat) (at' : Nat) (Q : List (Pr × List Nat)) : Prop where
  q : DQ x y Q
  reach : ∀ e ∈ Q, rs x e.2 0 = some e.1.1 ∧ rs y e.2 0 = some e.1.2 ∧ Lt 4 e.2
  sorted : ∀ (i j : Nat) (a b : Pr × List Nat), i ≤ j → Q[i]? = some a → Q[j]? = some b → a.2.length ≤ b.2.length
  near : ∀ (a b : Pr × List Nat) (j : Nat), Q[at']? = some a → Q[j]? = some b → b.2.length ≤ a.2.length + 1
  done : ∀ (i : Nat) (a : Pr × List Nat), i < at' → Q[i]? = some a → Cl x y Q a 4

theorem BI.push {x y : List Nat} {at' : Nat} {Q : List (Pr × List Nat)} (h : BI x y at' Q) {a : Pr × List Nat} (ha : Q[at']? = some a) {c : Nat} (hc : c < 4) (h1 : nx x c a.1.1 < x.length) (h2 : nx y c a.1.2 < y.length)
    (hn : (nx x c a.1.1 + 1, nx y c a.1.2 + 1) ∉ Q.map (·.1)) : BI x y at' (Q ++ [((nx x c a.1.1 + 1, nx y c a.1.2 + 1), a.2 ++ [97 + c])]) := by
  obtain ⟨r1, r2, r3⟩ := h.reach a (List.mem_of_getElem? ha)
  have hlast : ∀ j b, (Q ++ [((nx x c a.1.1 + 1, nx y c a.1.2 + 1), a.2 ++ [97 + c])])[j]? = some b → Q[j]? = some b ∨ (j = Q.length ∧ b = ((nx x c a.1.1 + 1, nx y c a.1.2 + 1), a.2 ++ [97 + c])) := fun j b hb => by
    by_cases hj : j < Q.length
    · rw [List.getElem?_append_left hj] at hb; exact .inl hb
    · rw [List.getElem?_append_right (by omega)] at hb
      have h3 := (List.getElem?_eq_some_iff.1 hb).1
      simp only [List.length_cons, List.length_nil] at h3
      have h4 : j - Q.length = 0 := by omega
      rw [h4] at hb
      exact .inr ⟨by omega, (Option.some.inj hb).symm⟩
  have hat := (List.getElem?_eq_some_iff.1 ha).1
  refine ⟨h.q.push (p := a.1) (wd := a.2) ha h1 h2 hn, ?_, ?_, ?_, ?_⟩
  · intro e he
    rcases List.mem_append.1 he with he | he
    · exact h.reach e he
    · obtain rfl := List.mem_singleton.1 he
      refine ⟨?_, ?_, r3.append (fun z hz => by rw [List.mem_singleton.1 hz]; omega)⟩
      · rw [rs_snoc, r1]; simp [h1]
      · rw [rs_snoc, r2]; simp [h2]
  · intro i j b d hij hb hd
    rcases hlast i b hb with hb | ⟨hi, rfl⟩
    · rcases hlast j d hd with hd | ⟨hj, rfl⟩
      · exact h.sorted i j b d hij hb hd
      · have := h.near a b i ha hb
        simp only [List.length_append, List.length_cons, List.length_nil]; omega
    · rcases hlast j d hd with hd | ⟨hj, rfl⟩
      · have := (List.getElem?_eq_some_iff.1 hd).1; omega
      · exact Nat.le_refl _
  · intro b d j hb hd
    rcases hlast at' b hb with hb | ⟨hi, _⟩
    · rw [ha] at hb
      obtain rfl := Option.some.inj hb
      rcases hlast j d hd with hd | ⟨_, rfl⟩
      · exact h.near a d j ha hd
      · simp
    · omega
  · intro i b hi hb
    rcases hlast i b hb with hb | ⟨hj, _⟩
    · exact (h.done i b hi hb).push
    · omega

theorem drun_spec (x y : List Nat) (at' : Nat) (a : Pr × List Nat) : ∀ (n c : Nat) (Q : List (Pr × List Nat)), c + n = 4 → BI x y at' Q → Q[at']? = some a → Cl x y Q a c →
    (∃ Q', drun x y a.1 a.2 (List.range' c n) Q = .go Q' ∧ BI x y at' Q' ∧ Q'[at']? = some a ∧ Cl x y Q' a 4) ∨
    (∃ e Q', e < 4 ∧ drun x y a.1 a.2 (List.range' c n) Q = .fin (a.2 ++ [97 + e]) ∧ ¬ (nx x e a.1.1 < x.length ↔ nx y e a.1.2 < y.length) ∧ BI x y at' Q' ∧ Q'[at']? = some a)
  | 0, c, Q, hc, hB, ha, hcl => by
    obtain rfl : c = 4 := by omega
    exact .inl ⟨Q, rfl, hB, ha, hcl⟩
  | n + 1, c, Q, hc, hB, ha, hcl => by
    rw [List.range'_succ, drun, dstep]
    by_cases hne : decide (nx x c a.1.1 < x.length) ≠ decide (nx y c a.1.2 < y.length)
    · rw [if_pos hne]
      refine .inr ⟨c, Q, by omega, rfl, fun h => hne ?_, hB, ha⟩
      exact decide_eq_decide.2 h
    · rw [if_neg hne]
      have hiff : nx x c a.1.1 < x.length ↔ nx y c a.1.2 < y.length := decide_eq_decide.1 (Decidable.of_not_not hne)
      by_cases hg : nx x c a.1.1 < x.length ∧ (nx x c a.1.1 + 1, nx y c a.1.2 + 1) ∉ Q.map (·.1)
      · rw [if_pos hg]
        have hat := (List.getElem?_eq_some_iff.1 ha).1
        refine drun_spec x y at' a n (c + 1) _ (by omega) (hB.push ha (by omega) hg.1 (hiff.1 hg.1) hg.2) (by rw [List.getElem?_append_left hat]; exact ha) ?_
        intro d hd
        by_cases e : d = c
        · subst e
          exact ⟨hiff, fun _ => ⟨Q.length, _, List.getElem?_concat_length, rfl, by simp⟩⟩
        · exact hcl.push d (by omega)
      · rw [if_neg hg]
        refine drun_spec x y at' a n (c + 1) Q (by omega) hB ha ?_
        intro d hd
        by_cases e : d = c
        · subst e
          refine ⟨hiff, fun h => ?_⟩
          have hm : (nx x d a.1.1 + 1, nx y d a.1.2 + 1) ∈ Q.map (·.1) := by
            by_cases hm : (nx x d a.1.1 + 1, nx y d a.1.2 + 1) ∈ Q.map (·.1)
            · exact hm
            · exact absurd ⟨h, hm⟩ hg
          obtain ⟨b, hb, e1⟩ := List.mem_map.1 hm
          obtain ⟨k, hk, e2⟩ := List.getElem_of_mem hb
          have hkb : Q[k]? = some b := by rw [List.getElem?_eq_getElem hk, e2]
          exact ⟨k, b, hkb, e1, hB.near a b k ha hkb⟩
        · exact hcl d (by omega)

/-- Where all pairs that a shorter word reaches are done, no word of the length M tells the two apart. -/
theorem follow (x y : List Nat) (at' : Nat) (Q : List (Pr × List Nat)) (hB : BI x y at' Q) (M : Nat) (hM : ∀ k b, Q[k]? = some b → b.2.length < M → k < at') : ∀ (v : List Nat) (k : Nat) (a : Pr × List Nat), Lt 4 v → Q[k]? = some a → a.2.length + v.length ≤ M →
    ((rs x v a.1.1).isSome = (rs y v a.1.2).isSome)
  | [], k, a, _, _, _ => rfl
  | z :: v, k, a, hv, ha, hl => by
    obtain ⟨c, rfl⟩ : ∃ c, z = 97 + c := ⟨z - 97, by have := hv.head; omega⟩
    have hc := hv.head
    simp only [List.length_cons] at hl
    obtain ⟨h1, h2⟩ := hB.done k a (hM k a ha (by omega)) ha c (by omega)
    rw [rs, rs, show 97 + c - 97 = c by omega]
    by_cases h : nx x c a.1.1 < x.length
    · rw [if_pos h, if_pos (h1.1 h)]
      obtain ⟨k', b, hb, e, hbl⟩ := h2 h
      have := follow x y at' Q hB M hM v k' b hv.tail hb (by omega)
      rw [e] at this
      exact this
    · rw [if_neg h, if_neg (fun g => h (h1.2 g))]

theorem dbfs_spec (x y : List Nat) (hx : x.length ≤ 60) (hy : y.length ≤ 60) : ∀ (f at' : Nat) (Q : List (Pr × List Nat)), 3722 ≤ f + at' → at' ≤ Q.length → BI x y at' Q →
    (dbfs x y f at' Q = [] ∧ ∀ v, Lt 4 v → (rs x v 0).isSome = (rs y v 0).isSome) ∨
    ((rs x (dbfs x y f at' Q) 0).isSome ≠ (rs y (dbfs x y f at' Q) 0).isSome ∧ Lt 4 (dbfs x y f at' Q) ∧ (dbfs x y f at' Q).length ≤ x.length + 1 ∧ (dbfs x y f at' Q).length ≤ y.length + 1 ∧
      ∀ v, Lt 4 v → v.length < (dbfs x y f at' Q).length → (rs x v 0).isSome = (rs y v 0).isSome)
  | 0, at', Q, hf, hle, hB => by
    have := hB.q.size hx hy
    omega
  | f + 1, at', Q, hf, hle, hB => by
    have hroot := hB.q.head
    rw [dbfs]
    cases ha : Q[at']? with
    | none =>
      left
      refine ⟨rfl, fun v hv => ?_⟩
      have hend : Q.length ≤ at' := List.getElem?_eq_none_iff.1 ha
      exact follow x y at' Q hB v.length (fun k b hb _ => by have := (List.getElem?_eq_some_iff.1 hb).1; omega) v 0 _ hv hroot (by simp)
    | some a =>
      obtain ⟨p, wd⟩ := a
      have hr : [0, 1, 2, 3] = List.range' 0 4 := rfl
      simp only [hr]
      rcases drun_spec x y at' (p, wd) 4 0 Q rfl hB ha (fun c hc => by omega) with ⟨Q', hrun, hB', ha', hcl⟩ | ⟨e, Q', he, hrun, hne, hB', ha'⟩
      · rw [hrun]
        have hat := (List.getElem?_eq_some_iff.1 ha').1
        refine dbfs_spec x y hx hy f (at' + 1) Q' (by omega) hat ⟨hB'.q, hB'.reach, hB'.sorted, fun b d j hb hd => ?_, fun i b hi hb => ?_⟩
        · have h1 := hB'.sorted at' (at' + 1) _ b (by omega) ha' hb
          have h2 := hB'.near _ d j ha' hd
          omega
        · by_cases e : i = at'
          · subst e
            rw [ha'] at hb
            obtain rfl := Option.some.inj hb
            exact hcl
          · exact hB'.done i b (by omega) hb
      · rw [hrun]
        right
        obtain ⟨r1, r2, r3⟩ := hB'.reach _ (List.mem_of_getElem? ha')
        have hin := hB'.q.inX _ (List.mem_of_getElem? ha')
        have hln := hB'.q.len _ (List.mem_of_getElem? ha')
        simp only at r1 r2 r3 hin hln hne
        have hroot' := hB'.q.head
        refine ⟨?_, r3.append (fun z hz => by rw [List.mem_singleton.1 hz]; omega), by simp; omega, by simp; omega, fun v hv hlt => ?_⟩
        · rw [rs_snoc, rs_snoc, r1, r2]
          simp only [Option.bind_some, show 97 + e - 97 = e by omega]
          by_cases h1 : nx x e p.1 < x.length
          · have h2 : ¬ nx y e p.2 < y.length := fun h2 => hne ⟨fun _ => h2, fun _ => h1⟩
            rw [if_pos h1, if_neg h2]; simp
          · have h2 : nx y e p.2 < y.length := by
              by_cases h2 : nx y e p.2 < y.length
              · exact h2
              · exact absurd ⟨fun h => absurd h h1, fun h => absurd h h2⟩ hne
            rw [if_neg h1, if_pos h2]; simp
        · simp only [List.length_append, List.length_cons, List.length_nil] at hlt
          refine follow x y at' Q' hB' wd.length (fun k b hb hbl => ?_) v 0 _ hv hroot' (by simp; omega)
          by_cases hk : k < at'
          · exact hk
          · have := hB'.sorted at' k _ b (by omega) ha' hb
            simp only at this
            omega

theorem BI.first (x y : List Nat) : BI x y 0 [((0, 0), [])] := by
  refine ⟨DQ.first x y, ?_, ?_, ?_, ?_⟩
  · intro e he
    obtain rfl := List.mem_singleton.1 he
    exact ⟨rfl, rfl, fun z hz => by cases hz⟩
  · intro i j a b _ ha hb
    have h1 := List.mem_singleton.1 (List.mem_of_getElem? ha)
    have h2 := List.mem_singleton.1 (List.mem_of_getElem? hb)
    rw [h1, h2]; exact Nat.le_refl _
  · intro a b j ha hb
    have h2 := List.mem_singleton.1 (List.mem_of_getElem? hb)
    rw [h2]; simp
  · intro i a hi; omega

/-- The word that tells two different words apart. -/
theorem dw_spec (x y : List Nat) (hx : x.length ≤ 60) (hy : y.length ≤ 60) (lx : Lt 4 x) (ly : Lt 4 y) (hne : x ≠ y) :
    ¬ ((dw x y).Sublist x ↔ (dw x y).Sublist y) ∧ Lt 4 (dw x y) ∧ (dw x y).length ≤ x.length + 1 ∧ (dw x y).length ≤ y.length + 1 ∧ ∀ v, Lt 4 v → v.length < (dw x y).length → (v.Sublist x ↔ v.Sublist y) := by
  have hs : ∀ (l v : List Nat), Lt 4 v → ((rs l v 0).isSome = true ↔ v.Sublist l) := fun l v hv => by
    have := rs_sub l v 0 hv (Nat.zero_le _)
    rwa [List.drop_zero] at this
  have heq : ∀ v, Lt 4 v → (rs x v 0).isSome = (rs y v 0).isSome → (v.Sublist x ↔ v.Sublist y) := fun v hv h => by
    rw [← hs x v hv, ← hs y v hv, h]
  rcases dbfs_spec x y hx hy 3722 0 [((0, 0), [])] (by omega) (by simp) (BI.first x y) with ⟨_, h⟩ | ⟨h1, h2, h3, h4, h5⟩
  · exfalso
    have g1 := (heq x lx (h x lx)).1 (List.Sublist.refl _)
    have g2 := (heq y ly (h y ly)).2 (List.Sublist.refl _)
    exact hne (g1.eq_of_length (Nat.le_antisymm g1.length_le g2.length_le))
  · refine ⟨fun h => h1 ?_, h2, h3, h4, fun v hv hl => heq v hv (h5 v hv hl)⟩
    rw [Bool.eq_iff_iff, hs x _ h2, hs y _ h2]; exact h

/-- Words with the same short subsequences have them with any words before and after them. -/
theorem sub_congr (a x y b : List Nat) (n : Nat) (h : ∀ v, Lt 4 v → v.length ≤ n → (v.Sublist x ↔ v.Sublist y)) (v : List Nat) (hv : Lt 4 v) (hn : v.length ≤ n) : v.Sublist (a ++ x ++ b) → v.Sublist (a ++ y ++ b) := by
  intro hs
  rw [List.sublist_append_iff] at hs
  obtain ⟨v1, v3, rfl, h1, h3⟩ := hs
  rw [List.sublist_append_iff] at h1
  obtain ⟨v1, v2, rfl, h1, h2⟩ := h1
  rw [List.length_append, List.length_append] at hn
  have hv2 : Lt 4 v2 := fun z hz => hv z (by simp [hz])
  exact (h1.append ((h v2 hv2 (by omega)).1 h2)).append h3
end Go.Proofs.Ytfjbodaakmapdaa
