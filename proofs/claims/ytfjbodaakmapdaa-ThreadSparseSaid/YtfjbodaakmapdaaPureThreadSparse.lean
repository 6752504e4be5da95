/-
  ThreadSparse: the law's plain side: the words without any word of a family are those without any of its minimal words.
-/
import Derived.Test.YtfjbodaakmapdaaPThreadSparsex2
import Derived.Test.YtfjbodaakmapdaaTc
import Derived.Test.YtfjbodaakmapdaaMinP
import Derived.Test.YtfjbodaakmapdaaFreeP
namespace Go.Proofs.Ytfjbodaakmapdaa.Pure
open Go.RowKit Go.Proofs.Ytfjbodaakmapdaa Go.Proofs.Ytfjbodaakmapdaa.Th Go.Proofs.Ytfjbodaakmapdaa.PThreadSparse Go.Proofs.YtfjbodaakmapdaaW.PrintWords Go.Proofs.YtfjbodaakmapdaaW.PrintLast Go.Proofs.YtfjbodaakmapdaaW.PrintMore
theorem awake_true : tickinglaw03_awake.f 10 = some true := by kernel_rfl
theorem awake_k (k : Nat) (h : 10 ≤ k) : tickinglaw03_awake.f k = some true := by
  obtain ⟨d, rfl⟩ : ∃ d, k = 10 + d := ⟨k - 10, by omega⟩
  clear h
  induction d with
  | zero => exact awake_true
  | succ d ih => exact tickinglaw03_awake.mono (10 + d) true ih
theorem w64 (x : Int) (h1 : -9223372036854775808 ≤ x) (h2 : x ≤ 9223372036854775807) : wrap64 x = x := by
  unfold wrap64; omega
theorem bt_nat (s : ByteArray) (i : Nat) (h : i < s.size) : bt s i = ((bl s)[i]'(by rw [bl_len]; exact h) : Nat) := by
  rw [bl_get s i h]
  exact (bt_at s i (by simpa using h)).symm

theorem rd_at {L : List Int} {r : Nat} {x : Int} (h : L[r]? = some x) : rd L (r : Int) = x := by
  unfold rd
  rw [List.getD_eq_getElem?_getD, Int.toNat_natCast, h]; rfl


theorem mod_f (a : Int) (n : Nat) (h1 : 1 ≤ n) (h2 : n ≤ 1152921504606846976) : ∃ r : Nat, r < n ∧ tickinglaw03_mod.f a n = some (r : Int) := by
  unfold tickinglaw03_mod.f
  have hw : IntKind.u64.wrap (n : Int) = n := by
    simp [IntKind.wrap, IntKind.bits, IntKind.signed]; omega
  have ha : 0 ≤ IntKind.u64.wrap a := by
    simp [IntKind.wrap, IntKind.bits, IntKind.signed]; omega
  rw [hw, if_neg (by omega)]
  refine ⟨(Int.tmod (IntKind.u64.wrap a) n).toNat, ?_, ?_⟩
  · have h3 := Int.tmod_lt_of_pos (IntKind.u64.wrap a) (show (0 : Int) < n by omega)
    have h4 := Int.tmod_nonneg (n : Int) ha
    omega
  · have h3 := Int.tmod_lt_of_pos (IntKind.u64.wrap a) (show (0 : Int) < n by omega)
    have h4 := Int.tmod_nonneg (n : Int) ha
    rw [w64 _ (by omega) (by omega)]
    congr 1; omega

theorem ints_l0 (a : List Int) (n : Nat) (ha : a.length ≤ n) (hn : n ≤ 100000) : ∀ (d i k : Nat), i + d = a.length → d + 1 ≤ k → tickinglaw03_ints.l0 k a a (i : Int) = some true
  | d, i, 0, hd, hk => by omega
  | 0, i, k + 1, hd, hk => by rw [tickinglaw03_ints.l0, if_neg (by omega)]
  | d + 1, i, k + 1, hd, hk => by
    rw [tickinglaw03_ints.l0, if_pos (by omega), if_pos (by omega), if_pos (by omega), if_pos rfl, w64 _ (by omega) (by omega), show (i : Int) + 1 = ((i + 1 : Nat) : Int) by omega]
    exact ints_l0 a n ha hn d (i + 1) k (by omega) (by omega)
theorem ints_same (a : List Int) (n : Nat) (ha : a.length ≤ n) (k : Nat) (hk : n + 1 ≤ k) (hn : n ≤ 100000 := by omega) : tickinglaw03_ints.f k a a = some true := by
  unfold tickinglaw03_ints.f
  rw [if_pos rfl]
  exact ints_l0 a n ha hn a.length 0 k (by omega) (by omega)

theorem next_l0 (s : ByteArray) (c : Nat) (hs : s.size ≤ 61) : ∀ (k i : Nat), s.size + 1 ≤ k + i → i ≤ s.size → tickingref03_Next.l0 k s ((97 + c : Nat) : Int) i = some (if nx (bl s) c i < s.size then ((nx (bl s) c i + 1 : Nat) : Int) else -1)
  | 0, i, h, hi => by omega
  | k + 1, i, h, hi => by
    rw [tickingref03_Next.l0]
    by_cases hlt : i < s.size
    · rw [if_pos (by omega), if_pos (by omega), bt_nat s i hlt, nx_step (bl s) c i (by rw [bl_len]; exact hlt)]
      have hw : wrap64 ((i : Int) + 1) = ((i + 1 : Nat) : Int) := by rw [w64 _ (by omega) (by omega)]; omega
      by_cases he : (bl s)[i]'(by rw [bl_len]; exact hlt) = 97 + c
      · rw [if_pos (by omega), if_pos he, if_pos hlt, hw]
      · rw [if_neg (by omega), if_neg he, hw]
        exact next_l0 s c hs k (i + 1) (by omega) (by omega)
    · obtain rfl : i = s.size := by omega
      have := nx_end (bl s) c
      rw [bl_len] at this
      rw [if_neg (by omega), this, if_neg (by omega)]
theorem next_f (s : ByteArray) (c : Nat) (hs : s.size ≤ 61) (k i : Nat) (h : 62 ≤ k) (hi : i ≤ s.size) : tickingref03_Next.f k s i ((97 + c : Nat) : Int) = some (if nx (bl s) c i < s.size then ((nx (bl s) c i + 1 : Nat) : Int) else -1) :=
  next_l0 s c hs k i (by omega) hi


theorem within_l0 (u w : ByteArray) (hu : isW u = true) (hw : w.size ≤ 60) : ∀ (k j i : Nat) (acc : List Nat), 200 ≤ k + j → j ≤ u.size → i ≤ w.size → acc.length ≤ j →
    tickingref03_Within.l0 k u w (zs acc) (i : Int) (j : Int) = some (match wn ((bl u).drop j) (bl w) i with | some l => (zs (acc ++ l), true) | none => ([], false))
  | 0, j, i, acc, h, hj, _, _ => by
    have := ((isW_iff u).1 hu).1
    omega
  | k + 1, j, i, acc, h, hj, hi, hacc => by
    obtain ⟨hu60, hl⟩ := (isW_iff u).1 hu
    rw [tickingref03_Within.l0]
    by_cases hlt : j < u.size
    · obtain ⟨h97, h100⟩ := hl j hlt
      have hg := bl_get u j hlt
      rw [if_pos (by omega), if_pos (by omega), bt_nat u j hlt, drop_at (by rw [bl_len]; exact hlt)]
      obtain ⟨c, hc⟩ : ∃ c, (bl u)[j]'(by rw [bl_len]; exact hlt) = 97 + c := ⟨u[j].toNat - 97, by omega⟩
      rw [hc, next_f w c (by omega) k i (by omega) hi, Option.bind_some, wn, show 97 + c - 97 = c by omega, bl_len]
      by_cases hn : nx (bl w) c i < w.size
      · rw [if_pos hn, if_pos hn, if_neg (by omega), if_pos (by rw [zs_len]; omega), w64 _ (by omega) (by omega), w64 _ (by omega) (by omega)]
        have e1 : zs acc ++ [((nx (bl w) c i + 1 : Nat) : Int) - 1] = zs (acc ++ [nx (bl w) c i]) := by rw [zs_snoc]; congr 2; omega
        have e2 : ((j : Int) + 1) = ((j + 1 : Nat) : Int) := by omega
        rw [e1, e2, within_l0 u w hu hw k (j + 1) (nx (bl w) c i + 1) (acc ++ [nx (bl w) c i]) (by omega) (by omega) (by omega) (by simp; omega)]
        cases wn ((bl u).drop (j + 1)) (bl w) (nx (bl w) c i + 1) <;> simp
      · rw [if_neg hn, if_neg hn, if_pos (by omega)]
    · obtain rfl : j = u.size := by omega
      rw [if_neg (by omega), List.drop_eq_nil_of_le (by rw [bl_len]; omega), wn]
      simp
theorem within_f (u w : ByteArray) (hu : isW u = true) (hw : w.size ≤ 60) (k : Nat) (h : 200 ≤ k) :
    tickingref03_Within.f k u w = some (match wn (bl u) (bl w) 0 with | some l => (zs l, true) | none => ([], false)) := by
  have := within_l0 u w hu hw k 0 0 [] (by omega) (by omega) (by omega) (Nat.le_refl _)
  rw [List.drop_zero] at this
  exact this


theorem within_is (u : List Nat) (w : ByteArray) (hu : Lt 4 u) (hl : u.length ≤ 60) (hw : w.size ≤ 60) (k : Nat) (h : 200 ≤ k) : ∃ ps, tickingref03_Within.f k (str u) w = some (ps, decide (u.Sublist (bl w))) := by
  rw [within_f _ w (isW_str hu hl) hw k h]
  have h1 := wn_sub (bl (str u)) (bl w) 0 (by rw [bl_strL hu (by omega)]; exact hu) (Nat.zero_le _)
  rw [bl_strL hu (by omega), List.drop_zero] at h1
  rw [bl_strL hu (by omega)]
  cases hw : wn u (bl w) 0 with
  | some ps => rw [hw] at h1; exact ⟨zs ps, by rw [decide_eq_true (h1.1 rfl)]⟩
  | none =>
    rw [hw] at h1
    exact ⟨[], by rw [decide_eq_false (fun h => by have := h1.2 h; cases this)]⟩


theorem rdOf_at (L : List ByteArray) (i : Nat) (h : i < L.length) : rdOf ByteArray.empty L (i : Int) = L[i] := by
  unfold rdOf
  rw [List.getD_eq_getElem?_getD, Int.toNat_natCast, List.getElem?_eq_getElem h]; rfl

theorem nodup_sub : ∀ {a b : List ByteArray}, a.Nodup → (∀ x ∈ a, x ∈ b) → a.length ≤ b.length
  | [], _, _, _ => Nat.zero_le _
  | x :: a, b, hn, hs => by
    rw [List.nodup_cons] at hn
    obtain ⟨s, t, rfl⟩ := List.append_of_mem (hs x List.mem_cons_self)
    have h := nodup_sub (a := a) (b := s ++ t) hn.2 (fun y hy => by
      have h1 := hs y (List.mem_cons_of_mem _ hy)
      rw [List.mem_append, List.mem_cons] at h1
      rw [List.mem_append]
      rcases h1 with h1 | rfl | h1
      · exact .inl h1
      · exact absurd hy hn.1
      · exact .inr h1)
    simp only [List.length_cons, List.length_append] at h ⊢; omega
theorem mnl_len (l : List ByteArray) (hw : ∀ x ∈ l, isW x = true) : (mnl l).length ≤ l.length := by
  have hs := mnl_spec l hw
  exact nodup_sub (hs.1.imp (fun {a b} h e => by subst e; rw [lt_irr] at h; cases h)) (fun x hx => ((hs.2 x).1 hx).1)

/-- The words that the statement makes. -/
def ownL (ls : List ByteArray) : List ByteArray := (ls.take 4).map fun s => str (tml s 6 4)
theorem ownL_fam (ls : List ByteArray) : (ownL ls).length ≤ 4 ∧ (∀ x ∈ ownL ls, isW x = true ∧ x.size ≤ 6) := by
  refine ⟨by unfold ownL; rw [List.length_map, List.length_take]; omega, fun x hx => ?_⟩
  obtain ⟨s, _, rfl⟩ := List.mem_map.1 hx
  exact ⟨isW_tml s 6 4 (by omega) (by omega), by rw [str_size, tml_len]; omega⟩
theorem fam_of (l : List ByteArray) (h4 : l.length ≤ 4) (h : ∀ x ∈ l, isW x = true ∧ x.size ≤ 6) : isFam l = true := by
  unfold isFam
  rw [decide_eq_true h4, Bool.true_and, Bool.not_eq_true', List.any_eq_false]
  intro x hx
  obtain ⟨h1, h2⟩ := h x hx
  unfold badW
  rw [h1, decide_eq_false (by omega)]; simp


theorem fo_at (l : List ByteArray) (k n i : Nat) (h : i ≤ n) : (zs (freeOut l k n))[i]? = some ((fbase l k i : Nat) : Int) := by
  unfold zs freeOut
  rw [List.getElem?_map, List.getElem?_map, List.getElem?_range (by omega)]; rfl
theorem fo_len (l : List ByteArray) (k n : Nat) : (zs (freeOut l k n)).length = n + 1 := by
  unfold freeOut; rw [zs_len, List.length_map, List.length_range]

theorem sp_l3 (l : List ByteArray) (k n : Nat) (hk4 : k ≤ 4) (hn : n ≤ 20) : ∀ (d i q : Nat), 1 ≤ i → i + d = n + 1 → 20 + d + 1 ≤ q →
    tickinglaw03_ThreadSparse.l3 q (k : Int) (n : Int) (zs (freeOut l k n)) (i : Int) = some true
  | d, i, 0, h1, hd, hq => by omega
  | 0, i, q + 1, h1, hd, hq => by
    rw [tickinglaw03_ThreadSparse.l3, if_neg (by omega), awake_k q (by omega), Option.bind_some]
  | d + 1, i, q + 1, h1, hd, hq => by
    have hl := fo_len l k n
    obtain ⟨p, rfl⟩ : ∃ p, i = p + 1 := ⟨i - 1, by omega⟩
    have e1 := rd_at (fo_at l k n (p + 1) (by omega))
    have e2 := rd_at (fo_at l k n p (by omega))
    have h3 := fbase_step l k p
    have h4 := fbase_pow l k p
    have h5 : k ^ p ≤ 4 ^ 20 := Nat.le_trans (Nat.pow_le_pow_left hk4 p) (Nat.pow_le_pow_right (by omega) (by omega))
    have h6 : k * fbase l k p ≤ 4 * 4 ^ 20 := Nat.mul_le_mul hk4 (Nat.le_trans h4 h5)
    have ih := sp_l3 l k n hk4 hn d (p + 1 + 1) q (by omega) (by omega) (by omega)
    have e3 : ((p + 1 : Nat) : Int) - 1 = (p : Int) := by omega
    have e4 : (k : Int) * ((fbase l k p : Nat) : Int) = ((k * fbase l k p : Nat) : Int) := by simp
    rw [tickinglaw03_ThreadSparse.l3, if_pos (by omega), if_pos (by omega), if_pos (by omega), e1, if_neg (by omega), w64 (((p + 1 : Nat) : Int) - 1) (by omega) (by omega), e3, if_pos (by omega), if_pos (by omega), e2, e4, w64 ((k * fbase l k p : Nat) : Int) (by omega) (by omega), if_neg (by omega), w64 _ (by omega) (by omega)]
    exact ih

theorem sp_l2 (l m : List ByteArray) (k n : Nat) (hw : ∀ x ∈ m, isW x = true) (hm4 : m.length ≤ 4) (hmi : ∀ (i j : Nat) (hi : i < m.length) (hj : j < m.length), i ≠ j → ¬ (bl m[j]).Sublist (bl m[i])) (i : Nat) (hi : i < m.length) (o : Option Bool) (K : Nat)
    (h : ∀ q, K ≤ q → tickinglaw03_ThreadSparse.l1 q (k : Int) (n : Int) m (zs (freeOut l k n)) ((i + 1 : Nat) : Int) = o) : ∀ (d j q : Nat), j + d = m.length → K + 200 + d + 1 ≤ q →
    tickinglaw03_ThreadSparse.l2 q (k : Int) (n : Int) m (zs (freeOut l k n)) (i : Int) (j : Int) = o
  | d, j, 0, hd, hq => by omega
  | 0, j, q + 1, hd, hq => by
    rw [tickinglaw03_ThreadSparse.l2, if_neg (by omega), w64 _ (by omega) (by omega), show (i : Int) + 1 = ((i + 1 : Nat) : Int) by omega]
    exact h q (by omega)
  | d + 1, j, q + 1, hd, hq => by
    have hj : j < m.length := by omega
    have ih := sp_l2 l m k n hw hm4 hmi i hi o K h d (j + 1) q (by omega) (by omega)
    have hwj := hw m[j] (List.getElem_mem hj)
    have hwi := hw m[i] (List.getElem_mem hi)
    obtain ⟨ps, hps⟩ := within_is (bl m[j]) m[i] (lt_of_isW hwj) (by rw [bl_len]; exact ((isW_iff _).1 hwj).1) ((isW_iff _).1 hwi).1 q (by omega)
    rw [str_bl] at hps
    rw [tickinglaw03_ThreadSparse.l2, if_pos (by omega), if_pos (by omega), if_pos (by omega), if_pos (by omega), rdOf_at m j hj, rdOf_at m i hi, hps, Option.bind_some, w64 _ (by omega) (by omega), show (j : Int) + 1 = ((j + 1 : Nat) : Int) by omega]
    by_cases hij : i = j
    · rw [if_pos (show (i : Int) = (j : Int) by omega)]
      by_cases hs : decide ((bl m[j]).Sublist (bl m[i])) = true
      · rw [if_pos hs]; exact ih
      · rw [if_neg hs]; exact ih
    · rw [if_neg (fun hd => hmi i j hi hj hij (of_decide_eq_true hd))]
      exact ih
theorem sp_l1 (l m : List ByteArray) (k n : Nat) (hk4 : k ≤ 4) (hn : n ≤ 20) (hw : ∀ x ∈ m, isW x = true) (hm4 : m.length ≤ 4) (hmi : ∀ (i j : Nat) (hi : i < m.length) (hj : j < m.length), i ≠ j → ¬ (bl m[j]).Sublist (bl m[i])) : ∀ (d i q : Nat), i + d = m.length → 100 + 300 * d ≤ q →
    tickinglaw03_ThreadSparse.l1 q (k : Int) (n : Int) m (zs (freeOut l k n)) (i : Int) = some true
  | d, i, 0, hd, hq => by omega
  | 0, i, q + 1, hd, hq => by
    have hl := fo_len l k n
    have e1 : rd (zs (freeOut l k n)) 0 = ((fbase l k 0 : Nat) : Int) := rd_at (r := 0) (fo_at l k n 0 (by omega))
    have h1 := fbase_zero l k
    obtain ⟨q, rfl⟩ : ∃ p, q = p + 1 := ⟨q - 1, by omega⟩
    rw [tickinglaw03_ThreadSparse.l1, if_neg (by omega), if_pos (by omega), e1, if_neg (by omega), tickinglaw03_ThreadSparse.j5, if_neg (by rw [decide_eq_true_iff]; omega)]
    exact sp_l3 l k n hk4 hn n 1 q (Nat.le_refl _) (by omega) (by omega)
  | d + 1, i, q + 1, hd, hq => by
    rw [tickinglaw03_ThreadSparse.l1, if_pos (by omega)]
    exact sp_l2 l m k n hw hm4 hmi i (by omega) _ (100 + 300 * d) (fun p hp => sp_l1 l m k n hk4 hn hw hm4 hmi d (i + 1) p (by omega) hp) m.length 0 q (by omega) (by omega)

theorem sp_l0 (ls : List ByteArray) (a b : Int) (o : Option Bool) (K : Nat) (h : ∀ q, K ≤ q → tickinglaw03_ThreadSparse.j1 q (ownL ls) a b = o) : ∀ (d i q : Nat), i + d = min 4 ls.length → K + d + 1 ≤ q → tickinglaw03_ThreadSparse.l0 q ls (ownL (ls.take i)) (i : Int) a b = o
  | d, i, 0, hd, hq => by omega
  | 0, i, q + 1, hd, hq => by
    have e : ownL (ls.take i) = ownL ls := by
      unfold ownL
      rw [List.take_take]
      by_cases h4 : 4 ≤ ls.length
      · rw [show min 4 i = 4 by omega]
      · rw [List.take_of_length_le (i := 4) (by omega), List.take_of_length_le (by omega)]
    rw [tickinglaw03_ThreadSparse.l0, e]
    by_cases h1 : (i : Int) < (ls.length : Int)
    · rw [if_pos h1, if_neg (by omega)]; exact h q (by omega)
    · rw [if_neg h1]; exact h q (by omega)
  | d + 1, i, q + 1, hd, hq => by
    have hlt : i < ls.length := by omega
    have ht := tame_f ls[i] 6 4 (by omega) (by omega)
    have e6 : ((6 : Nat) : Int) = 6 := rfl
    have e4 : ((4 : Nat) : Int) = 4 := rfl
    rw [e6, e4] at ht
    rw [tickinglaw03_ThreadSparse.l0, if_pos (by omega), if_pos (by omega), if_pos (by omega), rdOf_at ls i hlt, ht, Option.bind_some, if_pos (by have := (ownL_fam (ls.take i)).1; omega), w64 _ (by omega) (by omega), show (i : Int) + 1 = ((i + 1 : Nat) : Int) by omega]
    have e : ownL (ls.take i) ++ [str (tml ls[i] 6 4)] = ownL (ls.take (i + 1)) := by
      unfold ownL
      rw [List.take_take, List.take_take, show min 4 i = i by omega, show min 4 (i + 1) = i + 1 by omega, List.take_succ_eq_append_getElem hlt, List.map_append]; rfl
    rw [e]
    exact sp_l0 ls a b o K h d (i + 1) q (by omega) (by omega)

theorem sparse_pure (ls : List ByteArray) (a b : Int) : ∃ k, tickinglaw03_ThreadSparse.f k ls a b = some true := by
  suffices h : ∀ K, 4000 ≤ K → tickinglaw03_ThreadSparse.f K ls a b = some true from ⟨4000, h 4000 (Nat.le_refl _)⟩
  intro K hK
  unfold tickinglaw03_ThreadSparse.f
  obtain ⟨f1, f2⟩ := ownL_fam ls
  have h0 := sp_l0 ls a b (some true) 3000 (fun q hq => ?_) (min 4 ls.length) 0 K (by omega) (by omega)
  · rw [List.take_zero] at h0
    exact h0
  · obtain ⟨q, rfl⟩ : ∃ p, q = p + 1 := ⟨q - 1, by omega⟩
    generalize ownL ls = l at f1 f2
    have hfam := fam_of l f1 f2
    have hw := fun x hx => (f2 x hx).1
    have hml := mnl_len l hw
    obtain ⟨hso, hmem⟩ := mnl_spec l hw
    have hwm : ∀ x ∈ mnl l, isW x = true := fun x hx => hw x ((hmem x).1 hx).1
    have hfm := fam_of (mnl l) (by omega) (fun x hx => f2 x ((hmem x).1 hx).1)
    obtain ⟨r, hr, hm1⟩ := mod_f a 4 (by omega) (by omega)
    obtain ⟨n, hn, hm2⟩ := mod_f b 21 (by omega) (by omega)
    have e4 : ((4 : Nat) : Int) = 4 := rfl
    have e21 : ((21 : Nat) : Int) = 21 := rfl
    rw [e4] at hm1
    rw [e21] at hm2
    have h2 : Given.thread_Minimal.f l = some (mnl l, 0) := by
      unfold Given.thread_Minimal.f; rw [if_pos hfam]; rfl
    have hF : ∀ L : List ByteArray, isFam L = true → Given.thread_Free.f L ((1 + r : Nat) : Int) (n : Int) = some (zs (freeOut L (1 + r) n), 0) := fun L hL => by
      unfold Given.thread_Free.f
      rw [if_pos (by unfold freeOk; rw [hL, decide_eq_true (by omega), decide_eq_true (by omega), decide_eq_true (by omega), decide_eq_true (by omega)]; rfl)]
      rfl
    have hFo := freeOut_min l hw f1 (by omega) (1 + r) n
    have hmi : ∀ (i j : Nat) (hi : i < (mnl l).length) (hj : j < (mnl l).length), i ≠ j → ¬ (bl (mnl l)[j]).Sublist (bl (mnl l)[i]) := fun i j hi hj hij hs => by
      have h1 := ((hmem _).1 (List.getElem_mem hi)).2 _ ((hmem _).1 (List.getElem_mem hj)).1 hs
      have hp := List.pairwise_iff_getElem.1 hso
      rcases Nat.lt_or_gt_of_ne hij with h | h
      · have := hp i j hi hj h; rw [h1, lt_irr] at this; cases this
      · have := hp j i hj hi h; rw [h1, lt_irr] at this; cases this
    have hlen := fo_len l (1 + r) n
    have hend : ∀ q, 2000 ≤ q → tickinglaw03_ThreadSparse.j2 q ((1 + r : Nat) : Int) (n : Int) (mnl l) (zs (freeOut l (1 + r) n)) false = some true := fun q hq => by
      obtain ⟨q, rfl⟩ : ∃ p, q = p + 1 := ⟨q - 1, by omega⟩
      rw [tickinglaw03_ThreadSparse.j2, if_neg (by simp)]
      exact sp_l1 l (mnl l) (1 + r) n (by omega) (by omega) hwm (by omega) hmi (mnl l).length 0 q (by omega) (by omega)
    rw [tickinglaw03_ThreadSparse.j1, hm1, Option.bind_some, hm2, Option.bind_some, h2, Option.bind_some, w64 _ (by omega) (by omega), show (1 : Int) + (r : Int) = ((1 + r : Nat) : Int) by omega, hF l hfam, Option.bind_some]
    rw [hF (mnl l) hfm, hFo, Option.bind_some, if_pos rfl, if_pos rfl, if_pos rfl, w64 ((n : Int) + 1) (by omega) (by omega), if_pos (show ((zs (freeOut l (1 + r) n)).length : Int) = (n : Int) + 1 by omega), ints_same (zs (freeOut l (1 + r) n)) 100 (by omega) q (by omega), Option.bind_some, if_pos rfl]
    by_cases hl0 : (l.length : Int) > 0
    · rw [if_pos hl0]
      have hne : ((mnl l).length : Int) ≠ 0 := fun h => by
        have h1 : l[0]'(by omega) ∈ l := List.getElem_mem _
        obtain ⟨m, h2, h3, _⟩ := min_ex l _ _ (Nat.le_refl _) h1
        have := List.length_pos_of_mem ((hmem m).2 ⟨h2, h3⟩)
        omega
      rw [show (((mnl l).length : Int) == 0) = false from by simpa using hne]
      exact hend q (by omega)
    · rw [if_neg hl0]
      exact hend q (by omega)

end Go.Proofs.Ytfjbodaakmapdaa.Pure
