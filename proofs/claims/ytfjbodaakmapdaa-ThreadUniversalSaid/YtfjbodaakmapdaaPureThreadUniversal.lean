/-
  ThreadUniversal: the law's plain side: arches and the first absent word.
-/
import Derived.Test.YtfjbodaakmapdaaPThreadUniversalx2
import Derived.Test.YtfjbodaakmapdaaSub
import Derived.Test.YtfjbodaakmapdaaLets
import Derived.Test.YtfjbodaakmapdaaUni
namespace Go.Proofs.Ytfjbodaakmapdaa.Pure
open Go.RowKit Go.Proofs.Ytfjbodaakmapdaa Go.Proofs.Ytfjbodaakmapdaa.Th Go.Proofs.Ytfjbodaakmapdaa.PThreadUniversal Go.Proofs.YtfjbodaakmapdaaW.PrintWords Go.Proofs.YtfjbodaakmapdaaW.PrintLast
theorem awake_true : tickinglaw03_awake.f 10 = some true := by kernel_rfl
theorem awake_k (k : Nat) (h : 10 ≤ k) : tickinglaw03_awake.f k = some true := by
  obtain ⟨d, rfl⟩ : ∃ d, k = 10 + d := ⟨k - 10, by omega⟩
  clear h
  induction d with
  | zero => exact awake_true
  | succ d ih => exact tickinglaw03_awake.mono (10 + d) true ih
theorem w64 (x : Int) (h1 : -9223372036854775808 ≤ x) (h2 : x ≤ 9223372036854775807) : wrap64 x = x := by
  unfold wrap64; omega
theorem bt_nat (s : ByteArray) (i : Nat) (h : i < s.size) : bt s i = ((bl s)[i]'(by rw [bl_len]; exact h) : Nat) := by
  rw [bl_get s i h]
  exact (bt_at s i (by simpa using h)).symm

theorem rd_at {L : List Int} {r : Nat} {x : Int} (h : L[r]? = some x) : rd L (r : Int) = x := by
  unfold rd
  rw [List.getD_eq_getElem?_getD, Int.toNat_natCast, h]; rfl


theorem mod_f (a : Int) (n : Nat) (h1 : 1 ≤ n) (h2 : n ≤ 1152921504606846976) : ∃ r : Nat, r < n ∧ tickinglaw03_mod.f a n = some (r : Int) := by
  unfold tickinglaw03_mod.f
  have hw : IntKind.u64.wrap (n : Int) = n := by
    simp [IntKind.wrap, IntKind.bits, IntKind.signed]; omega
  have ha : 0 ≤ IntKind.u64.wrap a := by
    simp [IntKind.wrap, IntKind.bits, IntKind.signed]; omega
  rw [hw, if_neg (by omega)]
  refine ⟨(Int.tmod (IntKind.u64.wrap a) n).toNat, ?_, ?_⟩
  · have h3 := Int.tmod_lt_of_pos (IntKind.u64.wrap a) (show (0 : Int) < n by omega)
    have h4 := Int.tmod_nonneg (n : Int) ha
    omega
  · have h3 := Int.tmod_lt_of_pos (IntKind.u64.wrap a) (show (0 : Int) < n by omega)
    have h4 := Int.tmod_nonneg (n : Int) ha
    rw [w64 _ (by omega) (by omega)]
    congr 1; omega

theorem rd_zs (l : List Nat) (i : Nat) (h : i < l.length) : rd (zs l) (i : Int) = ((l[i] : Nat) : Int) := rd_at (by unfold zs; rw [List.getElem?_map, List.getElem?_eq_getElem h]; rfl)
theorem bl_append (a b : ByteArray) : bl (a ++ b) = bl a ++ bl b := by
  unfold bl
  rw [ByteArray.data_append, Array.toList_append, List.map_append]
theorem bl_extract (a : ByteArray) (i j : Nat) : bl (a.extract i j) = ((bl a).take j).drop i := by
  unfold bl
  rw [ByteArray.data_extract, Array.toList_extract, List.extract_eq_take_drop, List.map_take, List.map_drop, List.drop_take]
theorem take_drop_del (l : List Nat) (i : Nat) (_h : i < l.length) : (l.take i ++ l.drop (i + 1)).Sublist l := by
  conv => rhs; rw [← List.take_append_drop i l]
  exact (List.Sublist.refl _).append (by rw [← List.drop_drop]; exact List.drop_sublist _ _)

theorem l0_f (t s : ByteArray) (k : Int) (A : List Int) (ht : isW t = true) (hs : isW s = true) (out : Option Bool)
    (hsub : ∀ i, i < s.size → ((bl s).take i ++ (bl s).drop (i + 1)).Sublist (bl t)) : ∀ (d q i : Nat), i + d = s.size → 200 + d + 1 ≤ q →
    (∀ q, 200 ≤ q → (if (A.length : Int) = 0 then (tickinglaw03_ThreadUniversal.j2 q t k A true) else (if 0 ≤ (wrap64 ((A.length : Int) - 1)) then (if (wrap64 ((A.length : Int) - 1)) < (A.length : Int) then (tickinglaw03_ThreadUniversal.j2 q t k A ((rd A (wrap64 ((A.length : Int) - 1))) != (wrap64 ((t.size : Int) - 1)))) else (none)) else (none))) = out) →
    tickinglaw03_ThreadUniversal.l0 q t k A s (i : Int) = out
  | d, 0, i, hd, hq, hend => by omega
  | 0, q + 1, i, hd, hq, hend => by
    rw [tickinglaw03_ThreadUniversal.l0, if_neg (by omega)]
    exact hend q (by omega)
  | d + 1, q + 1, i, hd, hq, hend => by
    have h60 := ((isW_iff s).1 hs).1
    have e1 : (s.extract 0 ((i : Int)).toNat).size + (s.extract (((i : Int) + 1)).toNat s.size).size ≤ 9223372036854775807 := by
      rw [ByteArray.size_extract, ByteArray.size_extract]; omega
    have e2 : (((i : Int) + 1)).toNat = i + 1 := by omega
    have hb : bl (s.extract 0 i ++ s.extract (i + 1) s.size) = (bl s).take i ++ (bl s).drop (i + 1) := by
      rw [bl_append, bl_extract, bl_extract, List.drop_zero, List.take_of_length_le (i := s.size) (by rw [bl_len]; exact Nat.le_refl _)]
    have hl : Lt 4 ((bl s).take i ++ (bl s).drop (i + 1)) := (lt_of_isW hs).sub (take_drop_del _ _ (by rw [bl_len]; omega))
    have hw : isW (s.extract 0 i ++ s.extract (i + 1) s.size) = true := by
      have := isW_str hl (by rw [List.length_append, List.length_take, List.length_drop, bl_len]; omega)
      rwa [← hb, str_bl] at this
    rw [tickinglaw03_ThreadUniversal.l0, if_pos (by omega), if_pos (by omega), if_pos (by omega), w64 _ (by omega) (by omega), if_pos (by omega), if_pos (by omega), if_pos e1, e2, Int.toNat_natCast]
    have hwn : (wn (bl (s.extract 0 i ++ s.extract (i + 1) s.size)) (bl t) 0).isSome = true := by
      rw [wn_sub _ _ _ (by rw [hb]; exact hl) (Nat.zero_le _), hb, List.drop_zero]
      exact hsub i (by omega)
    obtain ⟨ps, hps⟩ := Option.isSome_iff_exists.1 hwn
    unfold Given.thread_Within.f
    rw [if_pos hw, if_pos ht, hps, Option.bind_some, if_pos rfl]
    have e3 : ((i : Int) + 1) = ((i + 1 : Nat) : Int) := by omega
    rw [e3]
    exact l0_f t s k A ht hs out hsub d q (i + 1) (by omega) (by omega) hend

theorem l1_f (t : ByteArray) (A : List Nat) (ht : t.size ≤ 30) (hA : A.length ≤ 31) (hA2 : ∀ x ∈ A, x ≤ 61) : ∀ (d q i : Nat), i + d = A.length → 20 + d + 1 ≤ q →
    tickinglaw03_ThreadUniversal.l1 q t (zs A) (zs (A ++ A.map (t.size + ·))) (i : Int) = some true
  | d, 0, i, hd, hq => by omega
  | 0, q + 1, i, hd, hq => by
    rw [tickinglaw03_ThreadUniversal.l1, if_neg (by rw [zs_len]; omega)]
    simp [awake_k q (by omega)]
  | d + 1, q + 1, i, hd, hq => by
    have hlen : (zs (A ++ A.map (t.size + ·))).length = A.length + A.length := by rw [zs_len, List.length_append, List.length_map]
    have hx := hA2 A[i] (List.getElem_mem (by omega))
    have hl2 : i < (A ++ A.map (t.size + ·)).length := by rw [List.length_append]; omega
    have hl3 : A.length + i < (A ++ A.map (t.size + ·)).length := by rw [List.length_append, List.length_map]; omega
    have g1 : (A ++ A.map (t.size + ·))[i]'hl2 = A[i]'(by omega) := List.getElem_append_left (by omega)
    have g2 : (A ++ A.map (t.size + ·))[A.length + i]'hl3 = t.size + A[i]'(by omega) := by
      rw [List.getElem_append_right (by omega), List.getElem_map]
      congr 2; omega
    have e1 : ((zs A).length : Int) + (i : Int) = ((A.length + i : Nat) : Int) := by rw [zs_len]; omega
    rw [tickinglaw03_ThreadUniversal.l1, if_pos (by rw [zs_len]; omega), if_pos (by omega), if_pos (by rw [hlen]; omega), rd_zs _ i hl2, rd_zs A i (by omega), g1, if_pos rfl, e1, w64 _ (by omega) (by omega), if_pos (by omega), if_pos (by rw [hlen]; omega), rd_zs _ (A.length + i) hl3, g2, w64 _ (by omega) (by omega), if_pos (by omega), w64 _ (by omega) (by omega), show (i : Int) + 1 = ((i + 1 : Nat) : Int) by omega]
    exact l1_f t A ht hA hA2 d q (i + 1) (by omega) (by omega)

theorem ar_le (l : List Nat) (k : Nat) : ∀ (f i : Nat), i ≤ l.length → ∀ x ∈ ar l k f i, x ≤ l.length
  | 0, i, _, x, hx => by cases hx
  | f + 1, i, hi, x, hx => by
    have := tp_le l i hi k
    rw [ar] at hx
    split at hx
    · cases hx
    · rcases List.mem_cons.1 hx with rfl | hx
      · exact this
      · exact ar_le l k f _ (by omega) x hx

theorem ThreadUniversal : tickinglaw03_ThreadUniversal.Pure := by
  intro a0 a1 _ _
  refine ⟨602, ?_⟩
  obtain ⟨r, hr, hm⟩ := mod_f a1 4 (by omega) (by omega)
  unfold tickinglaw03_ThreadUniversal.f
  have e4 : ((4 : Nat) : Int) = 4 := rfl
  rw [e4] at hm
  rw [hm, Option.bind_some, w64 _ (by omega) (by omega)]
  obtain ⟨k, hk1, hk4, e1⟩ : ∃ k : Nat, 1 ≤ k ∧ k ≤ 4 ∧ (1 : Int) + (r : Int) = (k : Int) := ⟨1 + r, by omega, by omega, by omega⟩
  rw [e1]
  have ht := tame_f a0 30 k (by omega) ⟨hk1, hk4⟩
  have hW := isW_tml a0 30 k ⟨hk1, hk4⟩ (by omega)
  have hl := tml_lt a0 30 k hk1
  have hb := bl_tml a0 30 k ⟨hk1, hk4⟩
  have h30 : (str (tml a0 30 k)).size ≤ 30 := by rw [str_size, tml_len]; omega
  have e30 : ((30 : Nat) : Int) = 30 := rfl
  rw [e30] at ht
  rw [ht, Option.bind_some]
  generalize hs : str (tml a0 30 k) = t at hW hb h30
  generalize tml a0 30 k = l at hl hb
  subst hb
  have hov : ∀ z : ByteArray, Lt k (bl z) → overB (bl z) k = true := fun z hz => by
    unfold overB
    rw [List.all_eq_true]
    intro x hx
    exact decide_eq_true (hz x hx).2
  have hok : archOk t (k : Int) = true := by
    unfold archOk
    rw [hW, Int.toNat_natCast, hov t hl, decide_eq_true (by omega), decide_eq_true (by omega)]; rfl
  have htl := bl_len t
  have hal := ar_len (bl t) k hk1 (t.size + 1) 0 (by omega) (Nat.zero_le _)
  obtain ⟨hs1, hs2, hs3⟩ := ab_spec (bl t) k hk1 (t.size + 1) 0 (by omega) (Nat.zero_le _)
  have hls := ls_le (bl t) k hk1 0 (by omega)
  have hmem := ar_le (bl t) k (t.size + 1) 0 (Nat.zero_le _)
  have htw : (ar (bl t) k (t.size + 1) 0).getLast? = some ((bl t).length - 1) → ar (bl t ++ bl t) k (t.size + t.size + 1) 0 = ar (bl t) k (t.size + 1) 0 ++ (ar (bl t) k ((bl t).length + 1) 0).map ((bl t).length + ·) :=
    ar_twice (bl t) k hk1 (t.size + 1) (t.size + t.size + 1) 0 (Nat.zero_le _) (by omega) (by omega)
  rw [htl] at htw
  have hshort : ∀ u : List Nat, Lt k u → u.length < ls (bl t) k 0 → u.Sublist (bl t) := fun u hu hlt => by
    have := short_sub (bl t) k hk1 u 0 (Nat.zero_le _) hu hlt
    rwa [List.drop_zero] at this
  unfold Given.thread_Arches.f Given.thread_Absent.f
  rw [if_pos hok, if_pos hok, Option.bind_some, Option.bind_some, Int.toNat_natCast]
  generalize hA : ar (bl t) k (t.size + 1) 0 = A at hal hmem htw
  generalize hB : ab (bl t) k (t.size + 1) 0 = B at hs1 hs2 hs3
  rw [List.drop_zero] at hs3
  have hBs : bl (str B) = B := bl_strL hs2 hk4
  have hBW : isW (str B) = true := isW_str (hs2.mono hk4) (by omega)
  unfold Given.thread_Within.f
  simp only
  have hwn : wn (bl (str B)) (bl t) 0 = none := by
    cases hw : wn (bl (str B)) (bl t) 0 with
    | none => rfl
    | some ps =>
      have h1 := wn_sub (bl (str B)) (bl t) 0 (by rw [hBs]; exact hs2.mono hk4) (Nat.zero_le _)
      rw [hw, hBs, List.drop_zero] at h1
      exact absurd (h1.1 rfl) hs3
  rw [if_pos hBW, if_pos hW, hwn, Option.bind_some, if_pos trivial, if_pos trivial, w64 _ (by rw [zs_len]; omega) (by rw [zs_len]; omega), if_pos (by rw [zs_len, str_size, hs1]; omega)]
  rw [tickinglaw03_ThreadUniversal.j0, if_neg (by simp)]
  have e0 : (0 : Int) = ((0 : Nat) : Int) := rfl
  rw [e0]
  refine l0_f t (str B) k (zs A) hW hBW (some true) (fun i hi => ?_) (str B).size 601 0 (by omega) (by rw [str_size]; omega) (fun q hq => ?_)
  · rw [hBs]
    rw [str_size] at hi
    refine hshort _ (hs2.sub (take_drop_del B i hi)) ?_
    rw [List.length_append, List.length_take, List.length_drop]; omega
  · obtain ⟨q, rfl⟩ : ∃ p, q = p + 1 := ⟨q - 1, by omega⟩
    by_cases hA0 : A = []
    · subst hA0
      rw [if_pos (by rfl), tickinglaw03_ThreadUniversal.j2, if_pos rfl]
      simp [awake_k q (by omega)]
    · have hpos : 0 < A.length := List.length_pos_iff.2 hA0
      have e2 : ((zs A).length : Int) - 1 = ((A.length - 1 : Nat) : Int) := by rw [zs_len]; omega
      rw [if_neg (by rw [zs_len]; omega), e2, w64 _ (by omega) (by omega), if_pos (by omega), if_pos (by rw [zs_len]; omega), rd_zs A (A.length - 1) (by omega), w64 _ (by omega) (by omega), tickinglaw03_ThreadUniversal.j2]
      by_cases hlast : A[A.length - 1]'(by omega) + 1 = t.size
      · rw [if_neg (by simp; omega), if_pos (by omega)]
        have hbt : bl (t ++ t) = bl t ++ bl t := bl_append t t
        have hts : (t ++ t).size = t.size + t.size := by rw [ByteArray.size_append]
        have hltt : Lt k (bl (t ++ t)) := by rw [hbt]; exact hl.append hl
        have hWW : isW (t ++ t) = true := by
          have := isW_str (hltt.mono hk4) (by rw [bl_len, hts]; omega)
          rwa [str_bl] at this
        have hok2 : archOk (t ++ t) (k : Int) = true := by
          unfold archOk
          rw [hWW, Int.toNat_natCast, hov (t ++ t) hltt, decide_eq_true (by omega), decide_eq_true (by omega)]; rfl
        have hgl : A.getLast? = some (t.size - 1) := by
          rw [List.getLast?_eq_getElem?, List.getElem?_eq_getElem (by omega)]
          congr 1; omega
        unfold Given.thread_Arches.f
        rw [if_pos hok2, Option.bind_some, if_pos rfl, Int.toNat_natCast, hbt, hts, htw hgl]
        have hml : (zs (A ++ A.map (t.size + ·))).length = A.length + A.length := by rw [zs_len, List.length_append, List.length_map]
        simp only
        have e3 : (((zs (A ++ A.map (t.size + ·))).length : Int) != wrap64 (2 * ((zs A).length : Int))) = false := by
          rw [hml, zs_len, w64 _ (by omega) (by omega)]
          simp; omega
        rw [e3]
        obtain ⟨q, rfl⟩ : ∃ p, q = p + 1 := ⟨q - 1, by omega⟩
        rw [tickinglaw03_ThreadUniversal.j3, if_neg (by simp), e0]
        exact l1_f t A h30 (by omega) (fun x hx => by have := hmem x hx; omega) A.length q 0 (by omega) (by omega)
      · rw [if_pos (by simp; omega)]
        simp [awake_k q (by omega)]

end Go.Proofs.Ytfjbodaakmapdaa.Pure
