/-
  ThreadItems: the law's plain side: the reference's functions and thread's contracts tell the same.
-/
import Derived.Test.YtfjbodaakmapdaaPThreadItemsx3
import Derived.Test.YtfjbodaakmapdaaSub
namespace Go.Proofs.Ytfjbodaakmapdaa.Pure
open Go.RowKit Go.Proofs.Ytfjbodaakmapdaa Go.Proofs.Ytfjbodaakmapdaa.Th Go.Proofs.Ytfjbodaakmapdaa.PThreadItems Go.Proofs.YtfjbodaakmapdaaW.PrintWords Go.Proofs.YtfjbodaakmapdaaW.PrintLast
theorem awake_true : tickinglaw03_awake.f 10 = some true := by kernel_rfl
theorem awake_k (k : Nat) (h : 10 ≤ k) : tickinglaw03_awake.f k = some true := by
  obtain ⟨d, rfl⟩ : ∃ d, k = 10 + d := ⟨k - 10, by omega⟩
  clear h
  induction d with
  | zero => exact awake_true
  | succ d ih => exact tickinglaw03_awake.mono (10 + d) true ih
theorem w64 (x : Int) (h1 : -9223372036854775808 ≤ x) (h2 : x ≤ 9223372036854775807) : wrap64 x = x := by
  unfold wrap64; omega
theorem bt_nat (s : ByteArray) (i : Nat) (h : i < s.size) : bt s i = ((bl s)[i]'(by rw [bl_len]; exact h) : Nat) := by
  rw [bl_get s i h]
  exact (bt_at s i (by simpa using h)).symm


theorem next_l0 (s : ByteArray) (c : Nat) (hs : s.size ≤ 61) : ∀ (k i : Nat), s.size + 1 ≤ k + i → i ≤ s.size → tickingref03_Next.l0 k s ((97 + c : Nat) : Int) i = some (if nx (bl s) c i < s.size then ((nx (bl s) c i + 1 : Nat) : Int) else -1)
  | 0, i, h, hi => by omega
  | k + 1, i, h, hi => by
    rw [tickingref03_Next.l0]
    by_cases hlt : i < s.size
    · rw [if_pos (by omega), if_pos (by omega), bt_nat s i hlt, nx_step (bl s) c i (by rw [bl_len]; exact hlt)]
      have hw : wrap64 ((i : Int) + 1) = ((i + 1 : Nat) : Int) := by rw [w64 _ (by omega) (by omega)]; omega
      by_cases he : (bl s)[i]'(by rw [bl_len]; exact hlt) = 97 + c
      · rw [if_pos (by omega), if_pos he, if_pos hlt, hw]
      · rw [if_neg (by omega), if_neg he, hw]
        exact next_l0 s c hs k (i + 1) (by omega) (by omega)
    · obtain rfl : i = s.size := by omega
      have := nx_end (bl s) c
      rw [bl_len] at this
      rw [if_neg (by omega), this, if_neg (by omega)]
theorem next_f (s : ByteArray) (c : Nat) (hs : s.size ≤ 61) (k i : Nat) (h : 62 ≤ k) (hi : i ≤ s.size) : tickingref03_Next.f k s i ((97 + c : Nat) : Int) = some (if nx (bl s) c i < s.size then ((nx (bl s) c i + 1 : Nat) : Int) else -1) :=
  next_l0 s c hs k i (by omega) hi


theorem letters_l0 (s : ByteArray) (c : Nat) (hc : c ≤ 4) (hs : s.size ≤ 61) : ∀ (k i : Nat), s.size + 1 ≤ k + i → i ≤ s.size → tickingref03_Letters.l0 k s (c : Int) i = some (((bl s).drop i).all fun x => decide (97 ≤ x ∧ x < 97 + c))
  | 0, i, h, hi => by omega
  | k + 1, i, h, hi => by
    rw [tickingref03_Letters.l0]
    by_cases hlt : i < s.size
    · have hw : wrap64 ((i : Int) + 1) = ((i + 1 : Nat) : Int) := by rw [w64 _ (by omega) (by omega)]; omega
      have hb : (bl s)[i]'(by rw [bl_len]; exact hlt) < 256 := by rw [bl_get s i hlt]; exact s[i].toNat_lt
      rw [if_pos (by omega), if_pos (by omega), bt_nat s i hlt, drop_at (by rw [bl_len]; exact hlt), List.all_cons, hw, letters_l0 s c hc hs k (i + 1) (by omega) (by omega)]
      by_cases h1 : 97 ≤ (bl s)[i]'(by rw [bl_len]; exact hlt)
      · rw [if_neg (by omega)]
        by_cases h2 : (bl s)[i]'(by rw [bl_len]; exact hlt) < 97 + c
        · rw [if_neg (by omega), decide_eq_true ⟨h1, h2⟩, Bool.true_and]
        · rw [if_pos (by omega), decide_eq_false (fun h => h2 h.2), Bool.false_and]
      · rw [if_pos (by omega), decide_eq_false (fun h => h1 h.1), Bool.false_and]
    · obtain rfl : i = s.size := by omega
      rw [if_neg (by omega), List.drop_eq_nil_of_le (by rw [bl_len]; omega)]; rfl
theorem word_f (s : ByteArray) (hs : s.size ≤ 61) (k : Nat) (h : 62 ≤ k) : tickingref03_Word.f k s = some (isW s) := by
  unfold tickingref03_Word.f isW
  by_cases h60 : s.size ≤ 60
  · rw [if_pos (by omega)]
    have := letters_l0 s 4 (by omega) hs k 0 (by omega) (by omega)
    unfold tickingref03_Letters.f
    have e : ((4 : Nat) : Int) = 4 := rfl
    have e0 : ((0 : Nat) : Int) = 0 := rfl
    rw [e, e0, List.drop_zero] at this
    rw [this, decide_eq_true h60, Bool.true_and]
    simp only [Option.bind_some]
    congr 2
    funext x
    congr 1
    apply propext
    omega
  · rw [if_neg (by omega), decide_eq_false h60, Bool.false_and]


/-- The counts of a word and its ends. -/
def cl (s : ByteArray) : List Int := (List.range (s.size + 1)).map fun r => ((cn ((bl s).drop r) : Nat) : Int)
structure CL (s : ByteArray) (m : Nat) (L : List Int) : Prop where
  len : L.length = s.size + 1
  row : ∀ r, m ≤ r → r ≤ s.size → L[r]? = some ((cn ((bl s).drop r) : Nat) : Int)
theorem CL.all {s : ByteArray} {L : List Int} (h : CL s 0 L) : L = cl s := by
  apply List.ext_getElem?
  intro r
  by_cases hr : r ≤ s.size
  · rw [h.row r (by omega) hr]
    unfold cl
    rw [List.getElem?_map, List.getElem?_range (by omega)]; rfl
  · rw [List.getElem?_eq_none (by rw [h.len]; omega), List.getElem?_eq_none (by simp [cl]; omega)]
theorem rd_at {L : List Int} {r : Nat} {x : Int} (h : L[r]? = some x) : rd L (r : Int) = x := by
  unfold rd
  rw [List.getD_eq_getElem?_getD, Int.toNat_natCast, h]; rfl

theorem counts_l1 (s : ByteArray) (hs : s.size ≤ 60) (j : Nat) (hj : j ≤ s.size) (K : Nat) (hK : 70 ≤ K)
    (ih : ∀ k L, K ≤ k → CL s j L → tickingref03_Counts.l0 k s L ((j : Int) - 1) = some (cl s)) :
    ∀ (d c k : Nat) (L : List Int), c + d = 4 → K + d + 1 ≤ k → CL s (j + 1) L → L[j]? = some ((pc ((bl s).drop j) c : Nat) : Int) → tickingref03_Counts.l1 k s L (j : Int) ((97 + c : Nat) : Int) = some (cl s)
  | d, c, 0, L, hc, hk, hL, hp => by omega
  | 0, c, k + 1, L, hc, hk, hL, hp => by
    obtain rfl : c = 4 := by omega
    rw [tickingref03_Counts.l1, if_neg (by omega), w64 _ (by omega) (by omega)]
    refine ih k L (by omega) ⟨hL.len, fun r h1 h2 => ?_⟩
    by_cases hr : r = j
    · subst hr; rw [hp, cn_eq]
    · exact hL.row r (by omega) h2
  | d + 1, c, k + 1, L, hc, hk, hL, hp => by
    rw [tickingref03_Counts.l1, if_pos (by omega), next_f s c (by omega) k j (by omega) hj, Option.bind_some]
    have hmod : (((97 + c : Nat) : Int) + 1) % 256 = ((97 + (c + 1) : Nat) : Int) := by omega
    have hdl : ((bl s).drop j).length = s.size - j := by rw [List.length_drop, bl_len]
    by_cases hn : nx (bl s) c j < s.size
    · have hge := nx_ge (bl s) c j
      have htm : tm ((bl s).drop j) c = cn ((bl s).drop (nx (bl s) c j + 1)) := by rw [tm_nx, if_pos (by rw [bl_len]; exact hn)]
      have hle : pc ((bl s).drop j) (c + 1) ≤ 1152921504606846976 := Nat.le_trans (pc_le _ _ (by omega)) (cn_60 _ (by rw [hdl]; omega))
      rw [pc, htm] at hle
      rw [if_pos hn, if_pos (by omega), if_pos (by omega), if_pos (by rw [hL.len]; omega), if_pos (by omega), if_pos (by rw [hL.len]; omega), rd_at hp, rd_at (hL.row _ (by omega) (by omega)), w64 _ (by omega) (by omega), hmod, Int.toNat_natCast]
      refine counts_l1 s hs j hj K hK ih d (c + 1) k _ (by omega) (by omega) ⟨by rw [List.length_set, hL.len], fun r h1 h2 => ?_⟩ ?_
      · rw [List.getElem?_set_ne (by omega)]; exact hL.row r h1 h2
      · rw [List.getElem?_set_self (by rw [hL.len]; omega), pc, htm]; congr 1
    · rw [if_neg hn, if_neg (by omega), hmod]
      refine counts_l1 s hs j hj K hK ih d (c + 1) k L (by omega) (by omega) hL ?_
      rw [hp, pc, tm_nx, if_neg (by rw [bl_len]; exact hn), Nat.add_zero]

theorem counts_l0 (s : ByteArray) (hs : s.size ≤ 60) : ∀ (m k : Nat) (L : List Int), m ≤ s.size + 1 → 6 * m + 70 ≤ k → CL s m L → tickingref03_Counts.l0 k s L ((m : Int) - 1) = some (cl s)
  | 0, k, L, hm, hk, hL => by
    obtain ⟨k, rfl⟩ : ∃ q, k = q + 1 := ⟨k - 1, by omega⟩
    rw [tickingref03_Counts.l0, if_neg (by omega), hL.all]
  | j + 1, k, L, hm, hk, hL => by
    obtain ⟨k, rfl⟩ : ∃ q, k = q + 1 := ⟨k - 1, by omega⟩
    have e : (((j + 1 : Nat) : Int) - 1) = (j : Int) := by omega
    rw [e, tickingref03_Counts.l0, if_pos (by omega), if_pos (by omega), if_pos (by rw [hL.len]; omega), Int.toNat_natCast]
    refine counts_l1 s hs j (by omega) (6 * j + 70) (by omega) (fun k L h1 h2 => counts_l0 s hs j k L (by omega) h1 h2) 4 0 k _ (by omega) (by omega) ⟨by rw [List.length_set, hL.len], fun r h1 h2 => ?_⟩ ?_
    · rw [List.getElem?_set_ne (by omega)]; exact hL.row r h1 h2
    · rw [List.getElem?_set_self (by rw [hL.len]; omega)]; rfl

theorem counts_f (s : ByteArray) (hs : s.size ≤ 60) (k : Nat) (h : 440 ≤ k) : tickingref03_Counts.f k s = some (cl s) := by
  unfold tickingref03_Counts.f
  rw [w64 _ (by omega) (by omega), if_pos (by omega), if_pos (by omega)]
  have := counts_l0 s hs (s.size + 1) k (List.replicate ((s.size : Int) + 1).toNat 0) (by omega) (by omega) ⟨by simp, fun r h1 h2 => by omega⟩
  rw [show (((s.size + 1 : Nat) : Int) - 1) = (s.size : Int) by omega] at this
  exact this

theorem cl_at (s : ByteArray) (r : Nat) (h : r ≤ s.size) : (cl s)[r]? = some ((cn ((bl s).drop r) : Nat) : Int) := by
  unfold cl
  rw [List.getElem?_map, List.getElem?_range (by omega)]; rfl
theorem cl_len (s : ByteArray) : (cl s).length = s.size + 1 := by simp [cl]


theorem strOfNums_one (c : Nat) : strOfNums [((97 + c : Nat) : Int)] = str [97 + c] := by
  unfold strOfNums str
  simp only [List.map_cons, List.map_nil, Int.toNat_natCast]
theorem item_l1 (w : ByteArray) (hw : w.size ≤ 60) (i : Nat) (hi : i ≤ w.size) (K : Nat) (hK0 : 0 < K) (hK : K < cn ((bl w).drop i)) (acc : List Nat) (hacc : acc.length ≤ i) (out : ByteArray) (F : Nat) (hF : 70 ≤ F)
    (ih : ∀ k, F ≤ k → tickingref03_Item.l0 k w (((K - pc ((bl w).drop i) (sel ((bl w).drop i) K) : Nat)) : Int) (cl w) (str (acc ++ [97 + sel ((bl w).drop i) K])) ((nx (bl w) (sel ((bl w).drop i) K) i + 1 : Nat) : Int) = some out) :
    ∀ (d c k : Nat), c + d = 4 → F + d + 1 ≤ k → c ≤ sel ((bl w).drop i) K → tickingref03_Item.l1 k w ((K - pc ((bl w).drop i) c : Nat) : Int) (cl w) (str acc) (i : Int) ((97 + c : Nat) : Int) = some out
  | d, c, 0, hc, hk, hs => by omega
  | 0, c, k + 1, hc, hk, hs => by have := sel_lt ((bl w).drop i) K; omega
  | d + 1, c, k + 1, hc, hk, hs => by
    have hlt := sel_lt ((bl w).drop i) K
    have hdl : ((bl w).drop i).length = w.size - i := by rw [List.length_drop, bl_len]
    have hcn := cn_60 ((bl w).drop i) (by omega)
    obtain ⟨h1, h2, h3, h4⟩ := sel_spec hK0 hK
    have hmod : (((97 + c : Nat) : Int) + 1) % 256 = ((97 + (c + 1) : Nat) : Int) := by omega
    have hpp := pc_pos ((bl w).drop i) c
    rw [tickingref03_Item.l1, if_pos (by omega), next_f w c (by omega) k i (by omega) hi, Option.bind_some]
    have hnl := nx_lt (bl w) c i (by rw [bl_len]; exact hi)
    rw [bl_len, hdl] at hnl
    by_cases hn : nx (bl w) c i < w.size
    · have htm : tm ((bl w).drop i) c = cn ((bl w).drop (nx (bl w) c i + 1)) := by rw [tm_nx, if_pos (by rw [bl_len]; exact hn)]
      have hst : pc ((bl w).drop i) (c + 1) = pc ((bl w).drop i) c + cn ((bl w).drop (nx (bl w) c i + 1)) := by rw [pc, htm]
      rw [if_pos hn, if_neg (by omega), if_pos (by omega), if_pos (by rw [cl_len]; omega), rd_at (cl_at w _ (by omega))]
      have hcK : pc ((bl w).drop i) c ≤ K := by
        have := pc_mono_le ((bl w).drop i) c _ hs
        omega
      by_cases hsel : sel ((bl w).drop i) K = c
      · rw [hsel] at h2 ih
        rw [if_pos (by omega)]
        have hss := str_size (acc ++ [97 + c])
        rw [← str_append, ByteArray.size_append] at hss
        have h97 : acc.length + 1 ≤ 62 := by omega
        have hz : (str acc).size + (str [97 + c]).size ≤ 62 := by
          rw [str_size, str_size]; simp only [List.length_cons, List.length_nil]; omega
        simp only [Option.bind_some]
        rw [strOfNums_one c, if_pos (by omega), str_append]
        exact ih k (by omega)
      · have hge : pc ((bl w).drop i) (c + 1) ≤ K := by
          have := pc_mono_le ((bl w).drop i) (c + 1) (sel ((bl w).drop i) K) (by omega)
          omega
        rw [if_neg (by omega), w64 _ (by omega) (by omega), hmod]
        have e1 : ((K - pc ((bl w).drop i) c : Nat) : Int) - ((cn ((bl w).drop (nx (bl w) c i + 1)) : Nat) : Int) = ((K - pc ((bl w).drop i) (c + 1) : Nat) : Int) := by omega
        rw [e1]
        exact item_l1 w hw i hi K hK0 hK acc hacc out F hF ih d (c + 1) k (by omega) (by omega) (by omega)
    · have hsel : sel ((bl w).drop i) K ≠ c := fun e => by
        rw [e] at h3
        omega
      have hst : pc ((bl w).drop i) (c + 1) = pc ((bl w).drop i) c := by rw [pc, tm_nx, if_neg (by rw [bl_len]; exact hn)]; rfl
      rw [if_neg hn, if_pos (by omega), hmod, ← hst]
      exact item_l1 w hw i hi K hK0 hK acc hacc out F hF ih d (c + 1) k (by omega) (by omega) (by omega)

theorem item_l0 (w : ByteArray) (hw : w.size ≤ 60) : ∀ (n i K k : Nat) (acc : List Nat), w.size ≤ n + i → i ≤ w.size → K < cn ((bl w).drop i) → acc.length ≤ i → 6 * n + 71 ≤ k →
    tickingref03_Item.l0 k w (K : Int) (cl w) (str acc) (i : Int) = some (str (acc ++ itm ((bl w).drop i) K))
  | n, i, K, 0, acc, hn, hi, hK, hacc, hk => by omega
  | n, i, K, k + 1, acc, hn, hi, hK, hacc, hk => by
    rw [tickingref03_Item.l0]
    have hdl : ((bl w).drop i).length = w.size - i := by rw [List.length_drop, bl_len]
    have hcn := cn_60 ((bl w).drop i) (by omega)
    by_cases h0 : K = 0
    · subst h0
      rw [if_neg (by omega), itm_zero, List.append_nil]
    · rw [if_pos (by omega), w64 _ (by omega) (by omega)]
      obtain ⟨h1, h2, h3, h4⟩ := sel_spec (l := (bl w).drop i) (k := K) (by omega) hK
      have hnl := nx_lt (bl w) (sel ((bl w).drop i) K) i (by rw [bl_len]; exact hi)
      rw [bl_len, hdl] at hnl
      have hnx := hnl.2 (by omega)
      have hge := nx_ge (bl w) (sel ((bl w).drop i) K) i
      rw [itm_step (by omega) hK]
      have e1 : (K : Int) - 1 = ((K - pc ((bl w).drop i) 0 : Nat) : Int) := by rw [pc]; omega
      rw [e1]
      obtain ⟨m, rfl⟩ : ∃ m, n = m + 1 := ⟨n - 1, by omega⟩
      rw [nx_dropn] at h4 ⊢
      refine item_l1 w hw i hi K (by omega) hK acc hacc _ (6 * m + 71) (by omega) (fun q hq => ?_) 4 0 k (by omega) (by omega) (Nat.zero_le _)
      rw [item_l0 w hw m _ _ q _ (by omega) (by omega) h4 (by simp; omega) hq]
      rw [List.append_assoc]; rfl
theorem item_f (w : ByteArray) (hw : isW w = true) (K : Nat) (hK : K < cn (bl w)) (k : Nat) (h : 500 ≤ k) : tickingref03_Item.f k w K = some (str (itm (bl w) K)) := by
  have hw60 := ((isW_iff w).1 hw).1
  unfold tickingref03_Item.f
  rw [counts_f w hw60 k (by omega), Option.bind_some]
  have := item_l0 w hw60 w.size 0 K k [] (by omega) (by omega) (by simpa using hK) (Nat.le_refl _) (by omega)
  rw [List.drop_zero] at this
  exact this

theorem short_f (a : ByteArray) : ∃ t, tickinglaw03_short.f a = some t ∧ t.size ≤ 61 := by
  unfold tickinglaw03_short.f
  have hm : mn (a.size : Int) 61 ≤ 61 ∧ mn (a.size : Int) 61 ≤ a.size ∧ 0 ≤ mn (a.size : Int) 61 := by unfold mn; split <;> omega
  rw [if_pos hm.2.2, if_pos hm.2.1]
  refine ⟨_, rfl, ?_⟩
  rw [ByteArray.size_extract]
  omega


theorem ThreadItems : tickinglaw03_ThreadItems.Pure := by
  intro a0 a1 _ _
  refine ⟨602, ?_⟩
  obtain ⟨w, hw, hw61⟩ := short_f a0
  unfold tickinglaw03_ThreadItems.f
  rw [hw, Option.bind_some]
  unfold Given.thread_Count.f Given.thread_Item.f
  rw [Option.bind_some, Option.bind_some, word_f w hw61 602 (by omega), Option.bind_some]
  cases hww : isW w with
  | false =>
    simp [awake_k 602 (by omega)]
  | true =>
    have hw60 := ((isW_iff w).1 hww).1
    have hcn := cn_60 (bl w) (by rw [bl_len]; exact hw60)
    simp only [if_true]
    rw [counts_f w hw60 602 (by omega), Option.bind_some, if_pos (by rw [cl_len]; omega)]
    have e0 : rd (cl w) 0 = ((cn (bl w) : Nat) : Int) := by
      have := rd_at (cl_at w 0 (by omega))
      rw [List.drop_zero] at this
      exact this
    rw [if_pos e0.symm]
    rw [tickinglaw03_ThreadItems.j0, if_neg (by simp)]
    by_cases hneg : a1 < 0
    · rw [if_pos hneg, tickinglaw03_ThreadItems.j1, if_pos rfl, if_neg (show ¬ (0 ≤ a1 ∧ a1 < ((cn (bl w) : Nat) : Int)) by omega)]
      simp [awake_k 600 (by omega)]
    · rw [if_neg hneg, tickinglaw03_ThreadItems.j1]
      by_cases hge : a1 ≥ ((cn (bl w) : Nat) : Int)
      · rw [if_neg (show ¬ (0 ≤ a1 ∧ a1 < ((cn (bl w) : Nat) : Int)) by omega), if_pos (by simpa using hge)]
        simp [awake_k 600 (by omega)]
      · obtain ⟨K, rfl⟩ : ∃ n : Nat, a1 = n := ⟨a1.toNat, by omega⟩
        rw [if_pos (show 0 ≤ (K : Int) ∧ (K : Int) < ((cn (bl w) : Nat) : Int) by omega), if_neg (by simpa using hge), item_f w hww K (by omega) 600 (by omega)]
        simp [awake_k 600 (by omega)]

end Go.Proofs.Ytfjbodaakmapdaa.Pure
