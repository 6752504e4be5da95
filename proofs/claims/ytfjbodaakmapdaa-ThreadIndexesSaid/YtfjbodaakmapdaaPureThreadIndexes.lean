/-
  ThreadIndexes: the law's plain side: the reference's functions and thread's contracts tell the same.
-/
import Derived.Test.YtfjbodaakmapdaaPThreadIndexesx3
namespace Go.Proofs.Ytfjbodaakmapdaa.Pure
open Go.RowKit Go.Proofs.Ytfjbodaakmapdaa Go.Proofs.Ytfjbodaakmapdaa.Th Go.Proofs.Ytfjbodaakmapdaa.PThreadIndexes Go.Proofs.YtfjbodaakmapdaaW.PrintWords Go.Proofs.YtfjbodaakmapdaaW.PrintLast
theorem awake_true : tickinglaw03_awake.f 10 = some true := by kernel_rfl
theorem w64 (x : Int) (h1 : -9223372036854775808 ≤ x) (h2 : x ≤ 9223372036854775807) : wrap64 x = x := by
  unfold wrap64; omega
theorem bt_nat (s : ByteArray) (i : Nat) (h : i < s.size) : bt s i = ((bl s)[i]'(by rw [bl_len]; exact h) : Nat) := by
  rw [bl_get s i h]
  exact (bt_at s i (by simpa using h)).symm

theorem next_l0 (s : ByteArray) (c : Nat) (hs : s.size ≤ 61) : ∀ (k i : Nat), s.size + 1 ≤ k + i → i ≤ s.size → tickingref03_Next.l0 k s ((97 + c : Nat) : Int) i = some (if nx (bl s) c i < s.size then ((nx (bl s) c i + 1 : Nat) : Int) else -1)
  | 0, i, h, hi => by omega
  | k + 1, i, h, hi => by
    rw [tickingref03_Next.l0]
    by_cases hlt : i < s.size
    · rw [if_pos (by omega), if_pos (by omega), bt_nat s i hlt, nx_step (bl s) c i (by rw [bl_len]; exact hlt)]
      have hw : wrap64 ((i : Int) + 1) = ((i + 1 : Nat) : Int) := by rw [w64 _ (by omega) (by omega)]; omega
      by_cases he : (bl s)[i]'(by rw [bl_len]; exact hlt) = 97 + c
      · rw [if_pos (by omega), if_pos he, if_pos hlt, hw]
      · rw [if_neg (by omega), if_neg he, hw]
        exact next_l0 s c hs k (i + 1) (by omega) (by omega)
    · obtain rfl : i = s.size := by omega
      have := nx_end (bl s) c
      rw [bl_len] at this
      rw [if_neg (by omega), this, if_neg (by omega)]
theorem next_f (s : ByteArray) (c : Nat) (hs : s.size ≤ 61) (k i : Nat) (h : 62 ≤ k) (hi : i ≤ s.size) : tickingref03_Next.f k s i ((97 + c : Nat) : Int) = some (if nx (bl s) c i < s.size then ((nx (bl s) c i + 1 : Nat) : Int) else -1) :=
  next_l0 s c hs k i (by omega) hi

theorem letters_l0 (s : ByteArray) (c : Nat) (hc : c ≤ 4) (hs : s.size ≤ 61) : ∀ (k i : Nat), s.size + 1 ≤ k + i → i ≤ s.size → tickingref03_Letters.l0 k s (c : Int) i = some (((bl s).drop i).all fun x => decide (97 ≤ x ∧ x < 97 + c))
  | 0, i, h, hi => by omega
  | k + 1, i, h, hi => by
    rw [tickingref03_Letters.l0]
    by_cases hlt : i < s.size
    · have hw : wrap64 ((i : Int) + 1) = ((i + 1 : Nat) : Int) := by rw [w64 _ (by omega) (by omega)]; omega
      have hb : (bl s)[i]'(by rw [bl_len]; exact hlt) < 256 := by rw [bl_get s i hlt]; exact s[i].toNat_lt
      rw [if_pos (by omega), if_pos (by omega), bt_nat s i hlt, drop_at (by rw [bl_len]; exact hlt), List.all_cons, hw, letters_l0 s c hc hs k (i + 1) (by omega) (by omega)]
      by_cases h1 : 97 ≤ (bl s)[i]'(by rw [bl_len]; exact hlt)
      · rw [if_neg (by omega)]
        by_cases h2 : (bl s)[i]'(by rw [bl_len]; exact hlt) < 97 + c
        · rw [if_neg (by omega), decide_eq_true ⟨h1, h2⟩, Bool.true_and]
        · rw [if_pos (by omega), decide_eq_false (fun h => h2 h.2), Bool.false_and]
      · rw [if_pos (by omega), decide_eq_false (fun h => h1 h.1), Bool.false_and]
    · obtain rfl : i = s.size := by omega
      rw [if_neg (by omega), List.drop_eq_nil_of_le (by rw [bl_len]; omega)]; rfl
theorem word_f (s : ByteArray) (hs : s.size ≤ 61) (k : Nat) (h : 62 ≤ k) : tickingref03_Word.f k s = some (isW s) := by
  unfold tickingref03_Word.f isW
  by_cases h60 : s.size ≤ 60
  · rw [if_pos (by omega)]
    have := letters_l0 s 4 (by omega) hs k 0 (by omega) (by omega)
    unfold tickingref03_Letters.f
    have e : ((4 : Nat) : Int) = 4 := rfl
    have e0 : ((0 : Nat) : Int) = 0 := rfl
    rw [e, e0, List.drop_zero] at this
    rw [this, decide_eq_true h60, Bool.true_and]
    simp only [Option.bind_some]
    congr 2
    funext x
    congr 1
    apply propext
    omega
  · rw [if_neg (by omega), decide_eq_false h60, Bool.false_and]

theorem within_l0 (u w : ByteArray) (hu : isW u = true) (hw : w.size ≤ 60) : ∀ (k j i : Nat) (acc : List Nat), 200 ≤ k + j → j ≤ u.size → i ≤ w.size → acc.length ≤ j →
    tickingref03_Within.l0 k u w (zs acc) (i : Int) (j : Int) = some (match wn ((bl u).drop j) (bl w) i with | some l => (zs (acc ++ l), true) | none => ([], false))
  | 0, j, i, acc, h, hj, _, _ => by
    have := ((isW_iff u).1 hu).1
    omega
  | k + 1, j, i, acc, h, hj, hi, hacc => by
    obtain ⟨hu60, hl⟩ := (isW_iff u).1 hu
    rw [tickingref03_Within.l0]
    by_cases hlt : j < u.size
    · obtain ⟨h97, h100⟩ := hl j hlt
      have hg := bl_get u j hlt
      rw [if_pos (by omega), if_pos (by omega), bt_nat u j hlt, drop_at (by rw [bl_len]; exact hlt)]
      obtain ⟨c, hc⟩ : ∃ c, (bl u)[j]'(by rw [bl_len]; exact hlt) = 97 + c := ⟨u[j].toNat - 97, by omega⟩
      rw [hc, next_f w c (by omega) k i (by omega) hi, Option.bind_some, wn, show 97 + c - 97 = c by omega, bl_len]
      by_cases hn : nx (bl w) c i < w.size
      · rw [if_pos hn, if_pos hn, if_neg (by omega), if_pos (by rw [zs_len]; omega), w64 _ (by omega) (by omega), w64 _ (by omega) (by omega)]
        have e1 : zs acc ++ [((nx (bl w) c i + 1 : Nat) : Int) - 1] = zs (acc ++ [nx (bl w) c i]) := by rw [zs_snoc]; congr 2; omega
        have e2 : ((j : Int) + 1) = ((j + 1 : Nat) : Int) := by omega
        rw [e1, e2, within_l0 u w hu hw k (j + 1) (nx (bl w) c i + 1) (acc ++ [nx (bl w) c i]) (by omega) (by omega) (by omega) (by simp; omega)]
        cases wn ((bl u).drop (j + 1)) (bl w) (nx (bl w) c i + 1) <;> simp
      · rw [if_neg hn, if_neg hn, if_pos (by omega)]
    · obtain rfl : j = u.size := by omega
      rw [if_neg (by omega), List.drop_eq_nil_of_le (by rw [bl_len]; omega), wn]
      simp
theorem within_f (u w : ByteArray) (hu : isW u = true) (hw : w.size ≤ 60) (k : Nat) (h : 200 ≤ k) :
    tickingref03_Within.f k u w = some (match wn (bl u) (bl w) 0 with | some l => (zs l, true) | none => ([], false)) := by
  have := within_l0 u w hu hw k 0 0 [] (by omega) (by omega) (by omega) (Nat.le_refl _)
  rw [List.drop_zero] at this
  exact this

/-- The counts of a word and its ends. -/
def cl (s : ByteArray) : List Int := (List.range (s.size + 1)).map fun r => ((cn ((bl s).drop r) : Nat) : Int)
structure CL (s : ByteArray) (m : Nat) (L : List Int) : Prop where
  len : L.length = s.size + 1
  row : ∀ r, m ≤ r → r ≤ s.size → L[r]? = some ((cn ((bl s).drop r) : Nat) : Int)
theorem CL.all {s : ByteArray} {L : List Int} (h : CL s 0 L) : L = cl s := by
  apply List.ext_getElem?
  intro r
  by_cases hr : r ≤ s.size
  · rw [h.row r (by omega) hr]
    unfold cl
    rw [List.getElem?_map, List.getElem?_range (by omega)]; rfl
  · rw [List.getElem?_eq_none (by rw [h.len]; omega), List.getElem?_eq_none (by simp [cl]; omega)]
theorem rd_at {L : List Int} {r : Nat} {x : Int} (h : L[r]? = some x) : rd L (r : Int) = x := by
  unfold rd
  rw [List.getD_eq_getElem?_getD, Int.toNat_natCast, h]; rfl

theorem counts_l1 (s : ByteArray) (hs : s.size ≤ 60) (j : Nat) (hj : j ≤ s.size) (K : Nat) (hK : 70 ≤ K)
    (ih : ∀ k L, K ≤ k → CL s j L → tickingref03_Counts.l0 k s L ((j : Int) - 1) = some (cl s)) :
    ∀ (d c k : Nat) (L : List Int), c + d = 4 → K + d + 1 ≤ k → CL s (j + 1) L → L[j]? = some ((pc ((bl s).drop j) c : Nat) : Int) → tickingref03_Counts.l1 k s L (j : Int) ((97 + c : Nat) : Int) = some (cl s)
  | d, c, 0, L, hc, hk, hL, hp => by omega
  | 0, c, k + 1, L, hc, hk, hL, hp => by
    obtain rfl : c = 4 := by omega
    rw [tickingref03_Counts.l1, if_neg (by omega), w64 _ (by omega) (by omega)]
    refine ih k L (by omega) ⟨hL.len, fun r h1 h2 => ?_⟩
    by_cases hr : r = j
    · subst hr; rw [hp, cn_eq]
    · exact hL.row r (by omega) h2
  | d + 1, c, k + 1, L, hc, hk, hL, hp => by
    rw [tickingref03_Counts.l1, if_pos (by omega), next_f s c (by omega) k j (by omega) hj, Option.bind_some]
    have hmod : (((97 + c : Nat) : Int) + 1) % 256 = ((97 + (c + 1) : Nat) : Int) := by omega
    have hdl : ((bl s).drop j).length = s.size - j := by rw [List.length_drop, bl_len]
    by_cases hn : nx (bl s) c j < s.size
    · have hge := nx_ge (bl s) c j
      have htm : tm ((bl s).drop j) c = cn ((bl s).drop (nx (bl s) c j + 1)) := by rw [tm_nx, if_pos (by rw [bl_len]; exact hn)]
      have hle : pc ((bl s).drop j) (c + 1) ≤ 1152921504606846976 := Nat.le_trans (pc_le _ _ (by omega)) (cn_60 _ (by rw [hdl]; omega))
      rw [pc, htm] at hle
      rw [if_pos hn, if_pos (by omega), if_pos (by omega), if_pos (by rw [hL.len]; omega), if_pos (by omega), if_pos (by rw [hL.len]; omega), rd_at hp, rd_at (hL.row _ (by omega) (by omega)), w64 _ (by omega) (by omega), hmod, Int.toNat_natCast]
      refine counts_l1 s hs j hj K hK ih d (c + 1) k _ (by omega) (by omega) ⟨by rw [List.length_set, hL.len], fun r h1 h2 => ?_⟩ ?_
      · rw [List.getElem?_set_ne (by omega)]; exact hL.row r h1 h2
      · rw [List.getElem?_set_self (by rw [hL.len]; omega), pc, htm]; congr 1
    · rw [if_neg hn, if_neg (by omega), hmod]
      refine counts_l1 s hs j hj K hK ih d (c + 1) k L (by omega) (by omega) hL ?_
      rw [hp, pc, tm_nx, if_neg (by rw [bl_len]; exact hn), Nat.add_zero]

theorem counts_l0 (s : ByteArray) (hs : s.size ≤ 60) : ∀ (m k : Nat) (L : List Int), m ≤ s.size + 1 → 6 * m + 70 ≤ k → CL s m L → tickingref03_Counts.l0 k s L ((m : Int) - 1) = some (cl s)
  | 0, k, L, hm, hk, hL => by
    obtain ⟨k, rfl⟩ : ∃ q, k = q + 1 := ⟨k - 1, by omega⟩
    rw [tickingref03_Counts.l0, if_neg (by omega), hL.all]
  | j + 1, k, L, hm, hk, hL => by
    obtain ⟨k, rfl⟩ : ∃ q, k = q + 1 := ⟨k - 1, by omega⟩
    have e : (((j + 1 : Nat) : Int) - 1) = (j : Int) := by omega
    rw [e, tickingref03_Counts.l0, if_pos (by omega), if_pos (by omega), if_pos (by rw [hL.len]; omega), Int.toNat_natCast]
    refine counts_l1 s hs j (by omega) (6 * j + 70) (by omega) (fun k L h1 h2 => counts_l0 s hs j k L (by omega) h1 h2) 4 0 k _ (by omega) (by omega) ⟨by rw [List.length_set, hL.len], fun r h1 h2 => ?_⟩ ?_
    · rw [List.getElem?_set_ne (by omega)]; exact hL.row r h1 h2
    · rw [List.getElem?_set_self (by rw [hL.len]; omega)]; rfl

theorem counts_f (s : ByteArray) (hs : s.size ≤ 60) (k : Nat) (h : 440 ≤ k) : tickingref03_Counts.f k s = some (cl s) := by
  unfold tickingref03_Counts.f
  rw [w64 _ (by omega) (by omega), if_pos (by omega), if_pos (by omega)]
  have := counts_l0 s hs (s.size + 1) k (List.replicate ((s.size : Int) + 1).toNat 0) (by omega) (by omega) ⟨by simp, fun r h1 h2 => by omega⟩
  rw [show (((s.size + 1 : Nat) : Int) - 1) = (s.size : Int) by omega] at this
  exact this

theorem cl_at (s : ByteArray) (r : Nat) (h : r ≤ s.size) : (cl s)[r]? = some ((cn ((bl s).drop r) : Nat) : Int) := by
  unfold cl
  rw [List.getElem?_map, List.getElem?_range (by omega)]; rfl
theorem cl_len (s : ByteArray) : (cl s).length = s.size + 1 := by simp [cl]

theorem index_l1 (w u : ByteArray) (hw : w.size ≤ 60) (hu : u.size ≤ 60) (j : Nat) (hj : j < u.size) (i : Nat) (hi : i ≤ w.size) (e : Nat) (he : (bl u)[j]'(by rw [bl_len]; exact hj) = 97 + e) (he4 : e < 4) (K : Nat) (hK : 70 ≤ K) (out : Int) (acc0 : Nat)
    (hacc0 : acc0 + cn ((bl w).drop i) ≤ 1152921504606846977)
    (ih : ∀ k (acc : Nat), K ≤ k → acc = acc0 + pc ((bl w).drop i) e → tickingref03_Index.l0 k w u (cl w) (acc : Int) (if nx (bl w) e i < w.size then ((nx (bl w) e i + 1 : Nat) : Int) else -1) (wrap64 ((j : Int) + 1)) = some out) :
    ∀ (d c k : Nat) (acc : Nat), c + d = e → K + d + 1 ≤ k → acc = acc0 + pc ((bl w).drop i) c → tickingref03_Index.l1 k w u (cl w) (acc : Int) (i : Int) (j : Int) ((97 + c : Nat) : Int) = some out
  | d, c, 0, acc, hc, hk, ha => by omega
  | 0, c, k + 1, acc, hc, hk, ha => by
    obtain rfl : c = e := by omega
    rw [tickingref03_Index.l1, if_pos (by omega), if_pos (by omega), bt_nat u j hj, he, if_neg (by omega), next_f w c (by omega) k i (by omega) hi, Option.bind_some]
    exact ih k acc (by omega) ha
  | d + 1, c, k + 1, acc, hc, hk, ha => by
    have hdl : ((bl w).drop i).length = w.size - i := by rw [List.length_drop, bl_len]
    have hle := pc_le ((bl w).drop i) (c + 1) (by omega)
    have hmod : (((97 + c : Nat) : Int) + 1) % 256 = ((97 + (c + 1) : Nat) : Int) := by omega
    rw [tickingref03_Index.l1, if_pos (by omega), if_pos (by omega), bt_nat u j hj, he, if_pos (by omega), next_f w c (by omega) k i (by omega) hi, Option.bind_some]
    by_cases hn : nx (bl w) c i < w.size
    · have htm : tm ((bl w).drop i) c = cn ((bl w).drop (nx (bl w) c i + 1)) := by rw [tm_nx, if_pos (by rw [bl_len]; exact hn)]
      rw [pc, htm] at hle
      rw [if_pos hn, if_pos (by omega), if_pos (by omega), if_pos (by rw [cl_len]; omega), rd_at (cl_at w _ (by omega)), w64 _ (by omega) (by omega), hmod]
      have e1 : (acc : Int) + ((cn ((bl w).drop (nx (bl w) c i + 1)) : Nat) : Int) = ((acc + cn ((bl w).drop (nx (bl w) c i + 1)) : Nat) : Int) := by omega
      rw [e1]
      exact index_l1 w u hw hu j hj i hi e he he4 K hK out acc0 hacc0 ih d (c + 1) k _ (by omega) (by omega) (by rw [pc, htm]; omega)
    · rw [if_neg hn, if_neg (by omega), hmod]
      exact index_l1 w u hw hu j hj i hi e he he4 K hK out acc0 hacc0 ih d (c + 1) k _ (by omega) (by omega) (by rw [ha, pc, tm_nx, if_neg (by rw [bl_len]; exact hn), Nat.add_zero])

theorem index_l0 (w u : ByteArray) (hw : w.size ≤ 60) (hu : isW u = true) (r : Nat) : ∀ (n j i acc k : Nat), n + j = u.size → i ≤ w.size → 6 * n + 71 ≤ k → acc + cn ((bl w).drop i) ≤ 1152921504606846976 → ix ((bl u).drop j) (bl w) i acc = some r →
    tickingref03_Index.l0 k w u (cl w) (acc : Int) (i : Int) (j : Int) = some (r : Int)
  | 0, j, i, acc, k, hn, hi, hk, hb, hx => by
    obtain ⟨k, rfl⟩ : ∃ q, k = q + 1 := ⟨k - 1, by omega⟩
    rw [List.drop_eq_nil_of_le (by rw [bl_len]; omega), ix] at hx
    cases hx
    rw [tickingref03_Index.l0, if_neg (by omega)]
  | n + 1, j, i, acc, k, hn, hi, hk, hb, hx => by
    obtain ⟨k, rfl⟩ : ∃ q, k = q + 1 := ⟨k - 1, by omega⟩
    obtain ⟨hu60, hl⟩ := (isW_iff u).1 hu
    have hlt : j < u.size := by omega
    obtain ⟨h97, h100⟩ := hl j hlt
    have hg := bl_get u j hlt
    obtain ⟨e, he⟩ : ∃ e, (bl u)[j]'(by rw [bl_len]; exact hlt) = 97 + e := ⟨u[j].toNat - 97, by omega⟩
    rw [drop_at (by rw [bl_len]; exact hlt), he, ix, show 97 + e - 97 = e by omega, bl_len] at hx
    by_cases hn2 : nx (bl w) e i < w.size
    · rw [if_pos hn2] at hx
      have hst := pc_step (bl w) e i (by rw [bl_len]; exact hn2)
      have hle := pc_le ((bl w).drop i) (e + 1) (by omega)
      rw [tickingref03_Index.l0, if_pos (by omega), w64 _ (by omega) (by omega)]
      have e1 : (acc : Int) + 1 = ((acc + 1 : Nat) : Int) := by omega
      rw [e1]
      refine index_l1 w u hw hu60 j hlt i hi e he (by omega) (6 * n + 71) (by omega) (r : Int) acc (by omega) (fun k' acc' hk' ha' => ?_) e 0 k (acc + 1) (by omega) (by omega) (by rw [pc])
      rw [if_pos hn2, w64 _ (by omega) (by omega), show (j : Int) + 1 = ((j + 1 : Nat) : Int) by omega, ha']
      exact index_l0 w u hw hu r n (j + 1) _ _ k' (by omega) (by omega) hk' (by omega) hx
    · rw [if_neg hn2] at hx; cases hx
theorem index_f (w u : ByteArray) (hw : isW w = true) (hu : isW u = true) (r : Nat) (hx : ix (bl u) (bl w) 0 0 = some r) (k : Nat) (h : 500 ≤ k) : tickingref03_Index.f k w u = some (r : Int) := by
  have hw60 := ((isW_iff w).1 hw).1
  have hu60 := ((isW_iff u).1 hu).1
  unfold tickingref03_Index.f
  rw [counts_f w hw60 k (by omega), Option.bind_some]
  refine index_l0 w u hw60 hu r u.size 0 0 0 k (by omega) (by omega) (by omega) ?_ (by simpa using hx)
  have := cn_60 (bl w) (by rw [bl_len]; exact hw60)
  simpa using this
/-- There is an index exactly if there are positions. -/
theorem ix_wn : ∀ (u w : List Nat) (i acc : Nat), (ix u w i acc).isSome = (wn u w i).isSome
  | [], _, _, _ => rfl
  | x :: u, w, i, acc => by
    rw [ix, wn]
    by_cases h : nx w (x - 97) i < w.length
    · rw [if_pos h, if_pos h, Option.isSome_map, ix_wn]
    · rw [if_neg h, if_neg h]; rfl

theorem awake_k (k : Nat) (h : 10 ≤ k) : tickinglaw03_awake.f k = some true := by
  obtain ⟨d, rfl⟩ : ∃ d, k = 10 + d := ⟨k - 10, by omega⟩
  clear h
  induction d with
  | zero => exact awake_true
  | succ d ih => exact tickinglaw03_awake.mono (10 + d) true ih
theorem short_f (a : ByteArray) : ∃ t, tickinglaw03_short.f a = some t ∧ t.size ≤ 61 := by
  unfold tickinglaw03_short.f
  have hm : mn (a.size : Int) 61 ≤ 61 ∧ mn (a.size : Int) 61 ≤ a.size ∧ 0 ≤ mn (a.size : Int) 61 := by unfold mn; split <;> omega
  rw [if_pos hm.2.2, if_pos hm.2.1]
  refine ⟨_, rfl, ?_⟩
  rw [ByteArray.size_extract]
  omega

theorem ThreadIndexes : tickinglaw03_ThreadIndexes.Pure := by
  intro a0 a1 _ _
  refine ⟨601, ?_⟩
  obtain ⟨w, hw, hw61⟩ := short_f a0
  obtain ⟨u, hu, hu61⟩ := short_f a1
  unfold tickinglaw03_ThreadIndexes.f
  rw [hw, Option.bind_some, hu, Option.bind_some]
  unfold Given.thread_Index.f
  rw [Option.bind_some, word_f w hw61 601 (by omega), Option.bind_some, word_f u hu61 601 (by omega)]
  cases hww : isW w with
  | false =>
    simp only [Bool.false_eq_true, if_false]
    rw [tickinglaw03_ThreadIndexes.j0]
    simp [awake_k 600 (by omega)]
  | true =>
    cases huw : isW u with
    | false =>
      simp only [Bool.false_eq_true, if_false, if_true, Option.bind_some, Bool.not_false]
      rw [tickinglaw03_ThreadIndexes.j0]
      simp [awake_k 600 (by omega)]
    | true =>
      simp only [if_true, Option.bind_some, Bool.not_true]
      rw [tickinglaw03_ThreadIndexes.j0, if_neg (by simp), within_f u w huw ((isW_iff w).1 hww).1 600 (by omega), Option.bind_some]
      have hiw := ix_wn (bl u) (bl w) 0 0
      cases hix : ix (bl u) (bl w) 0 0 with
      | none =>
        cases hwn : wn (bl u) (bl w) 0 with
        | some l => rw [hix, hwn] at hiw; cases hiw
        | none => simp [awake_k 600 (by omega)]
      | some r =>
        cases hwn : wn (bl u) (bl w) 0 with
        | none => rw [hix, hwn] at hiw; cases hiw
        | some l => simp [index_f w u hww huw r hix 600 (by omega), awake_k 600 (by omega)]
end Go.Proofs.Ytfjbodaakmapdaa.Pure
