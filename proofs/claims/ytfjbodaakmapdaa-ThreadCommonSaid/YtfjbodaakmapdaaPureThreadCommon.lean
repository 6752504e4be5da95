/-
  ThreadCommon: the law's plain side: longest common subsequences.
-/
import Derived.Test.YtfjbodaakmapdaaPThreadCommonx2
import Derived.Test.YtfjbodaakmapdaaTc
namespace Go.Proofs.Ytfjbodaakmapdaa.Pure
open Go.RowKit Go.Proofs.Ytfjbodaakmapdaa Go.Proofs.Ytfjbodaakmapdaa.Th Go.Proofs.Ytfjbodaakmapdaa.PThreadCommon Go.Proofs.YtfjbodaakmapdaaW.PrintWords Go.Proofs.YtfjbodaakmapdaaW.PrintLast Go.Proofs.YtfjbodaakmapdaaW.PrintMore
theorem awake_true : tickinglaw03_awake.f 10 = some true := by kernel_rfl
theorem awake_k (k : Nat) (h : 10 ≤ k) : tickinglaw03_awake.f k = some true := by
  obtain ⟨d, rfl⟩ : ∃ d, k = 10 + d := ⟨k - 10, by omega⟩
  clear h
  induction d with
  | zero => exact awake_true
  | succ d ih => exact tickinglaw03_awake.mono (10 + d) true ih
theorem w64 (x : Int) (h1 : -9223372036854775808 ≤ x) (h2 : x ≤ 9223372036854775807) : wrap64 x = x := by
  unfold wrap64; omega
theorem bt_nat (s : ByteArray) (i : Nat) (h : i < s.size) : bt s i = ((bl s)[i]'(by rw [bl_len]; exact h) : Nat) := by
  rw [bl_get s i h]
  exact (bt_at s i (by simpa using h)).symm

theorem rd_at {L : List Int} {r : Nat} {x : Int} (h : L[r]? = some x) : rd L (r : Int) = x := by
  unfold rd
  rw [List.getD_eq_getElem?_getD, Int.toNat_natCast, h]; rfl


theorem next_l0 (s : ByteArray) (c : Nat) (hs : s.size ≤ 61) : ∀ (k i : Nat), s.size + 1 ≤ k + i → i ≤ s.size → tickingref03_Next.l0 k s ((97 + c : Nat) : Int) i = some (if nx (bl s) c i < s.size then ((nx (bl s) c i + 1 : Nat) : Int) else -1)
  | 0, i, h, hi => by omega
  | k + 1, i, h, hi => by
    rw [tickingref03_Next.l0]
    by_cases hlt : i < s.size
    · rw [if_pos (by omega), if_pos (by omega), bt_nat s i hlt, nx_step (bl s) c i (by rw [bl_len]; exact hlt)]
      have hw : wrap64 ((i : Int) + 1) = ((i + 1 : Nat) : Int) := by rw [w64 _ (by omega) (by omega)]; omega
      by_cases he : (bl s)[i]'(by rw [bl_len]; exact hlt) = 97 + c
      · rw [if_pos (by omega), if_pos he, if_pos hlt, hw]
      · rw [if_neg (by omega), if_neg he, hw]
        exact next_l0 s c hs k (i + 1) (by omega) (by omega)
    · obtain rfl : i = s.size := by omega
      have := nx_end (bl s) c
      rw [bl_len] at this
      rw [if_neg (by omega), this, if_neg (by omega)]
theorem next_f (s : ByteArray) (c : Nat) (hs : s.size ≤ 61) (k i : Nat) (h : 62 ≤ k) (hi : i ≤ s.size) : tickingref03_Next.f k s i ((97 + c : Nat) : Int) = some (if nx (bl s) c i < s.size then ((nx (bl s) c i + 1 : Nat) : Int) else -1) :=
  next_l0 s c hs k i (by omega) hi


theorem within_l0 (u w : ByteArray) (hu : isW u = true) (hw : w.size ≤ 60) : ∀ (k j i : Nat) (acc : List Nat), 200 ≤ k + j → j ≤ u.size → i ≤ w.size → acc.length ≤ j →
    tickingref03_Within.l0 k u w (zs acc) (i : Int) (j : Int) = some (match wn ((bl u).drop j) (bl w) i with | some l => (zs (acc ++ l), true) | none => ([], false))
  | 0, j, i, acc, h, hj, _, _ => by
    have := ((isW_iff u).1 hu).1
    omega
  | k + 1, j, i, acc, h, hj, hi, hacc => by
    obtain ⟨hu60, hl⟩ := (isW_iff u).1 hu
    rw [tickingref03_Within.l0]
    by_cases hlt : j < u.size
    · obtain ⟨h97, h100⟩ := hl j hlt
      have hg := bl_get u j hlt
      rw [if_pos (by omega), if_pos (by omega), bt_nat u j hlt, drop_at (by rw [bl_len]; exact hlt)]
      obtain ⟨c, hc⟩ : ∃ c, (bl u)[j]'(by rw [bl_len]; exact hlt) = 97 + c := ⟨u[j].toNat - 97, by omega⟩
      rw [hc, next_f w c (by omega) k i (by omega) hi, Option.bind_some, wn, show 97 + c - 97 = c by omega, bl_len]
      by_cases hn : nx (bl w) c i < w.size
      · rw [if_pos hn, if_pos hn, if_neg (by omega), if_pos (by rw [zs_len]; omega), w64 _ (by omega) (by omega), w64 _ (by omega) (by omega)]
        have e1 : zs acc ++ [((nx (bl w) c i + 1 : Nat) : Int) - 1] = zs (acc ++ [nx (bl w) c i]) := by rw [zs_snoc]; congr 2; omega
        have e2 : ((j : Int) + 1) = ((j + 1 : Nat) : Int) := by omega
        rw [e1, e2, within_l0 u w hu hw k (j + 1) (nx (bl w) c i + 1) (acc ++ [nx (bl w) c i]) (by omega) (by omega) (by omega) (by simp; omega)]
        cases wn ((bl u).drop (j + 1)) (bl w) (nx (bl w) c i + 1) <;> simp
      · rw [if_neg hn, if_neg hn, if_pos (by omega)]
    · obtain rfl : j = u.size := by omega
      rw [if_neg (by omega), List.drop_eq_nil_of_le (by rw [bl_len]; omega), wn]
      simp
theorem within_f (u w : ByteArray) (hu : isW u = true) (hw : w.size ≤ 60) (k : Nat) (h : 200 ≤ k) :
    tickingref03_Within.f k u w = some (match wn (bl u) (bl w) 0 with | some l => (zs l, true) | none => ([], false)) := by
  have := within_l0 u w hu hw k 0 0 [] (by omega) (by omega) (by omega) (Nat.le_refl _)
  rw [List.drop_zero] at this
  exact this


theorem extract_one (t : ByteArray) (i : Nat) (h : i < t.size) : t.extract i (i + 1) = str [(bl t)[i]'(by rw [bl_len]; exact h)] := by
  have : bl (t.extract i (i + 1)) = [(bl t)[i]'(by rw [bl_len]; exact h)] := by
    unfold bl
    rw [ByteArray.data_extract, Array.toList_extract, List.extract_eq_take_drop, List.map_take, List.map_drop, drop_at (by rw [List.length_map, Array.length_toList]; exact h)]
    rw [show i + 1 - i = 1 by omega]; rfl
  rw [← str_bl (t.extract i (i + 1)), this]

theorem within_is (u : List Nat) (w : ByteArray) (hu : Lt 4 u) (hl : u.length ≤ 60) (hw : w.size ≤ 60) (k : Nat) (h : 200 ≤ k) : ∃ ps, tickingref03_Within.f k (str u) w = some (ps, decide (u.Sublist (bl w))) := by
  rw [within_f _ w (isW_str hu hl) hw k h]
  have h1 := wn_sub (bl (str u)) (bl w) 0 (by rw [bl_strL hu (by omega)]; exact hu) (Nat.zero_le _)
  rw [bl_strL hu (by omega), List.drop_zero] at h1
  rw [bl_strL hu (by omega)]
  cases hw : wn u (bl w) 0 with
  | some ps => rw [hw] at h1; exact ⟨zs ps, by rw [decide_eq_true (h1.1 rfl)]⟩
  | none =>
    rw [hw] at h1
    exact ⟨[], by rw [decide_eq_false (fun h => by have := h1.2 h; cases this)]⟩

theorem common_l0 (x y s a : ByteArray) (hx : x.size ≤ 60) (hy : y.size ≤ 60) (hs : isW s = true) (ha : mo (bl x) (bl y) ≤ a.size) : ∀ (d i k : Nat) (acc : List Nat), i + d = s.size → 250 + d + 1 ≤ k → acc.length ≤ i → Lt 4 acc → acc.Sublist (bl x) → acc.Sublist (bl y) →
    tickinglaw03_ThreadCommon.l0 k x y s a (str acc) (i : Int) = some true
  | d, i, 0, acc, hd, hk, hl, h4, h1, h2 => by omega
  | 0, i, k + 1, acc, hd, hk, hl, h4, h1, h2 => by
    have := mo_ge _ _ _ h1 h2
    rw [tickinglaw03_ThreadCommon.l0, if_neg (by omega), if_pos (by rw [str_size]; omega)]
    simp [awake_k k (by omega)]
  | d + 1, i, k + 1, acc, hd, hk, hl, h4, h1, h2 => by
    have h60 := ((isW_iff s).1 hs).1
    have hlt : i < s.size := by omega
    have hc := lt_of_isW hs _ (List.getElem_mem (by rw [bl_len]; exact hlt) : (bl s)[i]'(by rw [bl_len]; exact hlt) ∈ bl s)
    have e1 : ((i : Int) + 1) = ((i + 1 : Nat) : Int) := by omega
    rw [tickinglaw03_ThreadCommon.l0, if_pos (by omega), if_pos (by omega), w64 _ (by omega) (by omega), if_pos (by omega), if_pos (by omega), e1, Int.toNat_natCast, Int.toNat_natCast, extract_one s i hlt, if_pos (by rw [str_size, str_size]; simp only [List.length_cons, List.length_nil]; omega), str_append]
    generalize (bl s)[i]'(by rw [bl_len]; exact hlt) = c at hc
    have h5 : Lt 4 (acc ++ [c]) := h4.append (fun z hz => by rw [List.mem_singleton.1 hz]; exact hc)
    have h6 : (acc ++ [c]).length ≤ i + 1 := by simp; omega
    obtain ⟨p1, e2⟩ := within_is (acc ++ [c]) x h5 (by omega) hx k (by omega)
    obtain ⟨p2, e3⟩ := within_is (acc ++ [c]) y h5 (by omega) hy k (by omega)
    rw [e2, Option.bind_some, e3, Option.bind_some]
    by_cases g1 : (acc ++ [c]).Sublist (bl x)
    · by_cases g2 : (acc ++ [c]).Sublist (bl y)
      · rw [if_pos (by simpa using g1), if_pos (by simpa using g2)]
        exact common_l0 x y s a hx hy hs ha d (i + 1) k _ (by omega) (by omega) h6 h5 g1 g2
      · rw [if_pos (by simpa using g1), if_neg (by simpa using g2)]
        exact common_l0 x y s a hx hy hs ha d (i + 1) k _ (by omega) (by omega) (by omega) h4 h1 h2
    · rw [if_neg (by simpa using g1)]
      exact common_l0 x y s a hx hy hs ha d (i + 1) k _ (by omega) (by omega) (by omega) h4 h1 h2

theorem within_given (u : List Nat) (w : ByteArray) (hu : Lt 4 u) (hl : u.length ≤ 60) (hw : isW w = true) (hs : u.Sublist (bl w)) : ∃ ps, Given.thread_Within.f (str u) w = some (ps, 0) := by
  have h1 := wn_sub (bl (str u)) (bl w) 0 (by rw [bl_strL hu (by omega)]; exact hu) (Nat.zero_le _)
  rw [bl_strL hu (by omega), List.drop_zero] at h1
  obtain ⟨ps, hps⟩ := Option.isSome_iff_exists.1 (h1.2 hs)
  refine ⟨zs ps, ?_⟩
  unfold Given.thread_Within.f
  rw [if_pos (isW_str hu hl), if_pos hw, bl_strL hu (by omega), hps]

theorem ThreadCommon : tickinglaw03_ThreadCommon.Pure := by
  intro a0 a1 a2 _ _ _
  refine ⟨602, ?_⟩
  unfold tickinglaw03_ThreadCommon.f
  have e40 : ((40 : Nat) : Int) = 40 := rfl
  have e4 : ((4 : Nat) : Int) = 4 := rfl
  have ht : ∀ a : ByteArray, Given.tickinglaw03_tame.f a 40 4 = some (str (tml a 40 4)) := fun a => by
    have := tame_f a 40 4 (by omega) (by omega)
    rw [e40, e4] at this; exact this
  have hsz : ∀ a : ByteArray, (str (tml a 40 4)).size ≤ 40 := fun a => by rw [str_size, tml_len]; omega
  rw [ht, ht, ht]
  simp only [Option.bind_some]
  have w0 := isW_tml a0 40 4 (by omega) (by omega)
  have w1 := isW_tml a1 40 4 (by omega) (by omega)
  have w2 := isW_tml a2 40 4 (by omega) (by omega)
  have s0 := hsz a0
  have s1 := hsz a1
  have s2 := hsz a2
  generalize str (tml a0 40 4) = x at w0 s0 ⊢
  generalize str (tml a1 40 4) = y at w1 s1 ⊢
  generalize str (tml a2 40 4) = s at w2 s2 ⊢
  have lx := lt_of_isW w0
  have ly := lt_of_isW w1
  obtain ⟨g1, g2, g3⟩ := lg_spec (bl x) (bl y) lx 61 0 0 (by rw [bl_len]; omega) (Nat.zero_le _) (Nat.zero_le _)
  rw [List.drop_zero, List.drop_zero] at *
  have hL := lx.sub g1
  have hmo := (mo_le (bl x) (bl y)).1
  rw [bl_len] at hmo
  have hxx := lg_self (bl x) lx 61 (by rw [bl_len]; omega)
  have hyx := lg_both (bl x) (bl y) lx ly 61 61 (by rw [bl_len]; omega) (by rw [bl_len]; omega)
  obtain ⟨p1, e1⟩ := within_given _ x hL (by omega) w0 g1
  obtain ⟨p2, e2⟩ := within_given _ y hL (by omega) w1 g2
  unfold Given.thread_Longest.f
  simp only [w0, w1, Option.bind_some, if_true]
  rw [hxx, ← hyx, str_bl]
  generalize lg (bl x) (bl y) 61 0 0 = L at *
  rw [e1, Option.bind_some, e2, Option.bind_some]
  rw [if_pos rfl, if_pos rfl, if_pos rfl, show (x.toList != x.toList) = false by simp]
  rw [tickinglaw03_ThreadCommon.j0, if_neg (by simp)]
  have es : (⟨#[]⟩ : ByteArray) = str [] := rfl
  have e0 : (0 : Int) = ((0 : Nat) : Int) := rfl
  rw [es, e0]
  exact common_l0 x y s (str L) (by omega) (by omega) w2 (by rw [str_size, g3]; exact Nat.le_refl _) s.size 0 601 [] (by omega) (by omega) (Nat.le_refl _) (fun z hz => by cases hz) (List.nil_sublist _) (List.nil_sublist _)

end Go.Proofs.Ytfjbodaakmapdaa.Pure
