/-
  What thread.Free counts, in plain Lean: how many words go on from given marks without completing a word of the family.
-/
import Derived.Test.YtfjbodaakmapdaaMarks
import Derived.Test.YtfjbodaakmapdaaEntry
namespace Go.Proofs.Ytfjbodaakmapdaa
open Go.RowKit Th Kit

abbrev MM := List (List Nat × Nat)

/-- What a letter adds. -/
def wterm (ws : List (List Nat)) (f : List Nat → Nat) (m : List Nat) (c : Nat) : Nat := if (mgo (97 + c) ws m 0).2 = true then f (mgo (97 + c) ws m 0).1 else 0
def wpart (ws : List (List Nat)) (f : List Nat → Nat) (m : List Nat) : Nat → Nat
  | 0 => 0
  | c + 1 => wpart ws f m c + wterm ws f m c
/-- How many words of length n of the first k letters complete no word of the family from these marks on. -/
def wcount (ws : List (List Nat)) (k : Nat) : Nat → List Nat → Nat
  | 0, _ => 1
  | n + 1, m => wpart ws (wcount ws k n) m k

theorem wpart_le (ws : List (List Nat)) (f : List Nat → Nat) (m : List Nat) (b : Nat) (hf : ∀ m, f m ≤ b) : ∀ c, wpart ws f m c ≤ c * b
  | 0 => by simp [wpart]
  | c + 1 => by
    have := wpart_le ws f m b hf c
    have h2 : wterm ws f m c ≤ b := by
      unfold wterm; split
      · exact hf _
      · omega
    rw [wpart, Nat.succ_mul]; omega
theorem wcount_le (ws : List (List Nat)) (k : Nat) : ∀ n m, wcount ws k n m ≤ k ^ n
  | 0, _ => by simp [wcount]
  | n + 1, m => by
    have := wpart_le ws (wcount ws k n) m (k ^ n) (wcount_le ws k n) k
    rw [wcount, Nat.pow_succ, Nat.mul_comm]; exact this

/-- The words that a whole map of marks stands for. -/
def tot (ws : List (List Nat)) (k j : Nat) : MM → Nat
  | [] => 0
  | p :: M => p.2 * wcount ws k j p.1 + tot ws k j M
theorem tot_append (ws : List (List Nat)) (k j : Nat) : ∀ (a b : MM), tot ws k j (a ++ b) = tot ws k j a + tot ws k j b
  | [], b => by simp [tot]
  | p :: a, b => by rw [List.cons_append, tot, tot, tot_append ws k j a b]; omega
theorem tot_out (ws : List (List Nat)) (k j : Nat) (a c : MM) (x : List Nat × Nat) : tot ws k j (a ++ x :: c) = tot ws k j (a ++ c) + x.2 * wcount ws k j x.1 := by
  rw [tot_append, tot_append, tot]; omega

theorem getL_split {l : MM} {k : List Nat} {v : Nat} (hn : (l.map (·.1)).Nodup) (h : getL l k = some v) : ∃ a c, l = a ++ (k, v) :: c ∧ ∀ x, putL l k x = a ++ (k, x) :: c := by
  have h' := h
  unfold getL at h
  obtain ⟨p, hp, rfl⟩ := Option.map_eq_some_iff.1 h
  have hk := List.find?_some hp
  simp only [decide_eq_true_eq] at hk
  have hm := List.mem_of_find?_eq_some hp
  obtain ⟨a, c, rfl⟩ := List.append_of_mem hm
  obtain ⟨pk, pv⟩ := p
  simp only at hk
  subst hk
  refine ⟨a, c, rfl, fun x => ?_⟩
  rw [putL_set hn (j := a.length) (u := pv) (by simp)]
  simp

theorem tot_put (ws : List (List Nat)) (k j : Nat) (l : MM) (t : List Nat) (x : Nat) (hn : (l.map (·.1)).Nodup) : tot ws k j (putL l t ((getL l t).getD 0 + x)) = tot ws k j l + x * wcount ws k j t := by
  cases h : getL l t with
  | none =>
    unfold putL
    rw [h]
    simp only [Option.isSome_none, Bool.false_eq_true, if_false, Option.getD_none, Nat.zero_add]
    rw [tot_append, tot, tot]; simp only; omega
  | some v =>
    obtain ⟨a, c, rfl, hp⟩ := getL_split hn h
    rw [hp, tot_out, tot_out, Option.getD_some]
    simp only
    rw [Nat.add_mul]; omega
theorem get_le (ws : List (List Nat)) (k : Nat) (l : MM) (t : List Nat) (hn : (l.map (·.1)).Nodup) : (getL l t).getD 0 ≤ tot ws k 0 l := by
  cases h : getL l t with
  | none => simp
  | some v =>
    obtain ⟨a, c, rfl, hp⟩ := getL_split hn h
    rw [tot_out, Option.getD_some]
    simp only [wcount]
    omega

/-- Marks of a family, small. -/
def okq (l : List ByteArray) (m : List Nat) : Prop := okK m ∧ okm l m

theorem mgo_length (c : Nat) : ∀ (ws : List (List Nat)) (m : List Nat) (i : Nat), (mgo c ws m i).1.length = m.length
  | [], m, i => rfl
  | w :: ws, m, i => by
    rw [mgo]
    split
    · split
      · simp
      · rw [mgo_length c ws]; simp
    · exact mgo_length c ws m (i + 1)

theorem mgo_small (c : Nat) : ∀ (ws : List (List Nat)) (m : List Nat) (i : Nat), (∀ w ∈ ws, w.length ≤ 8) → (∀ j w, ws[j]? = some w → m.getD (i + j) 0 < w.length) → (∀ x ∈ m, x < 100) → ∀ x ∈ (mgo c ws m i).1, x < 100
  | [], m, i, _, _, h => h
  | w :: ws, m, i, h8, hlt, h => by
    have h0 := hlt 0 w rfl
    have hw := h8 w (by simp)
    have hset : ∀ x ∈ m.set i (m.getD i 0 + 1), x < 100 := fun x hx => by
      rcases List.mem_or_eq_of_mem_set hx with hx | rfl
      · exact h x hx
      · simp only [Nat.add_zero] at h0; omega
    rw [mgo]
    split
    · split
      · exact hset
      · refine mgo_small c ws _ (i + 1) (fun w hw => h8 w (by simp [hw])) (fun j w' hj => ?_) hset
        have := hlt (j + 1) w' (by simpa using hj)
        rw [List.getD_eq_getElem?_getD, List.getElem?_set_ne (by omega), ← List.getD_eq_getElem?_getD, show i + 1 + j = i + (j + 1) by omega]
        exact this
    · exact mgo_small c ws m (i + 1) (fun w hw => h8 w (by simp [hw])) (fun j w' hj => by
        have := hlt (j + 1) w' (by simpa using hj)
        rw [show i + 1 + j = i + (j + 1) by omega]; exact this) h

theorem mgo_ok (c : Nat) : ∀ (ws : List (List Nat)) (m : List Nat) (i : Nat), i + ws.length ≤ m.length → (∀ j w, ws[j]? = some w → m.getD (i + j) 0 < w.length) → (mgo c ws m i).2 = true →
    (∀ j w, ws[j]? = some w → (mgo c ws m i).1.getD (i + j) 0 < w.length) ∧ ∀ j, j < i → (mgo c ws m i).1.getD j 0 = m.getD j 0
  | [], m, i, _, _, _ => ⟨fun j w h => by simp at h, fun _ _ => rfl⟩
  | w :: ws, m, i, hil, hlt, hok => by
    have h0 := hlt 0 w rfl
    simp only [Nat.add_zero] at h0
    simp only [List.length_cons] at hil
    rw [mgo] at hok ⊢
    split at hok
    · rename_i hc
      rw [if_pos hc]
      split at hok
      · cases hok
      · rename_i hne
        rw [if_neg hne]
        obtain ⟨h1, h2⟩ := mgo_ok c ws (m.set i (m.getD i 0 + 1)) (i + 1) (by simp; omega) (fun j w' hj => by
          have := hlt (j + 1) w' (by simpa using hj)
          rw [List.getD_eq_getElem?_getD, List.getElem?_set_ne (by omega), ← List.getD_eq_getElem?_getD, show i + 1 + j = i + (j + 1) by omega]
          exact this) hok
        refine ⟨fun j w' hj => ?_, fun j hj => ?_⟩
        · cases j with
          | zero =>
            simp only [List.getElem?_cons_zero, Option.some.injEq] at hj
            subst hj
            have h3 := h2 i (by omega)
            rw [List.getD_eq_getElem?_getD (l := m.set i _), List.getElem?_set_self (by omega), Option.getD_some] at h3
            show (mgo c ws (m.set i (m.getD i 0 + 1)) (i + 1)).1.getD i 0 < w.length
            omega
          | succ j =>
            have := h1 j w' (by simpa using hj)
            rw [show i + (j + 1) = i + 1 + j by omega]; exact this
        · rw [h2 j (by omega), List.getD_eq_getElem?_getD, List.getElem?_set_ne (by omega), ← List.getD_eq_getElem?_getD]
    · rename_i hc
      rw [if_neg hc]
      obtain ⟨h1, h2⟩ := mgo_ok c ws m (i + 1) (by omega) (fun j w' hj => by
        have := hlt (j + 1) w' (by simpa using hj)
        rw [show i + 1 + j = i + (j + 1) by omega]; exact this) hok
      refine ⟨fun j w' hj => ?_, fun j hj => h2 j (by omega)⟩
      cases j with
      | zero =>
        simp only [List.getElem?_cons_zero, Option.some.injEq] at hj
        subst hj
        show (mgo c ws m (i + 1)).1.getD i 0 < w.length
        rw [h2 i (by omega)]; exact h0
      | succ j =>
        have := h1 j w' (by simpa using hj)
        rw [show i + (j + 1) = i + 1 + j by omega]; exact this

theorem okq_go {l : List ByteArray} {m : List Nat} (h : okq l m) (hl : l.length ≤ 4) (h8 : ∀ s ∈ l, s.size ≤ 8) (c : Nat) (hok : (mgo c (l.map bl) m 0).2 = true) : okq l (mgo c (l.map bl) m 0).1 := by
  obtain ⟨⟨h4, hs⟩, _, hm⟩ := h
  have hlt : ∀ j w, (l.map bl)[j]? = some w → m.getD (0 + j) 0 < w.length := fun j w hj => by
    rw [List.getElem?_map] at hj
    obtain ⟨s, hs', rfl⟩ := Option.map_eq_some_iff.1 hj
    rw [bl_len, Nat.zero_add]; exact hm j s hs'
  have h8' : ∀ w ∈ l.map bl, w.length ≤ 8 := fun w hw => by
    obtain ⟨s, hs', rfl⟩ := List.mem_map.1 hw
    rw [bl_len]; exact h8 s hs'
  have h1 := mgo_length c (l.map bl) m 0
  refine ⟨⟨by rw [h1, h4], mgo_small c _ m 0 h8' hlt hs⟩, by rw [h1, h4], fun i s hi => ?_⟩
  have := (mgo_ok c (l.map bl) m 0 (by simp; omega) hlt hok).1 i (bl s) (by rw [List.getElem?_map, hi]; rfl)
  rw [bl_len, Nat.zero_add] at this
  exact this
end Go.Proofs.Ytfjbodaakmapdaa
