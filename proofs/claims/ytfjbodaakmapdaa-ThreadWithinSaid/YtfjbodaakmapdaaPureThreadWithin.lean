/-
  ThreadWithin: the law's plain side: positions and longest common subsequences.
-/
import Derived.Test.YtfjbodaakmapdaaPThreadWithinx4
import Derived.Test.YtfjbodaakmapdaaTc
namespace Go.Proofs.Ytfjbodaakmapdaa.Pure
open Go.RowKit Go.Proofs.Ytfjbodaakmapdaa Go.Proofs.Ytfjbodaakmapdaa.Th Go.Proofs.Ytfjbodaakmapdaa.PThreadWithin Go.Proofs.YtfjbodaakmapdaaW.PrintWords Go.Proofs.YtfjbodaakmapdaaW.PrintLast Go.Proofs.YtfjbodaakmapdaaW.PrintMore
theorem awake_true : tickinglaw03_awake.f 10 = some true := by kernel_rfl
theorem awake_k (k : Nat) (h : 10 ≤ k) : tickinglaw03_awake.f k = some true := by
  obtain ⟨d, rfl⟩ : ∃ d, k = 10 + d := ⟨k - 10, by omega⟩
  clear h
  induction d with
  | zero => exact awake_true
  | succ d ih => exact tickinglaw03_awake.mono (10 + d) true ih
theorem w64 (x : Int) (h1 : -9223372036854775808 ≤ x) (h2 : x ≤ 9223372036854775807) : wrap64 x = x := by
  unfold wrap64; omega
theorem bt_nat (s : ByteArray) (i : Nat) (h : i < s.size) : bt s i = ((bl s)[i]'(by rw [bl_len]; exact h) : Nat) := by
  rw [bl_get s i h]
  exact (bt_at s i (by simpa using h)).symm

theorem rd_at {L : List Int} {r : Nat} {x : Int} (h : L[r]? = some x) : rd L (r : Int) = x := by
  unfold rd
  rw [List.getD_eq_getElem?_getD, Int.toNat_natCast, h]; rfl


theorem next_l0 (s : ByteArray) (c : Nat) (hs : s.size ≤ 61) : ∀ (k i : Nat), s.size + 1 ≤ k + i → i ≤ s.size → tickingref03_Next.l0 k s ((97 + c : Nat) : Int) i = some (if nx (bl s) c i < s.size then ((nx (bl s) c i + 1 : Nat) : Int) else -1)
  | 0, i, h, hi => by omega
  | k + 1, i, h, hi => by
    rw [tickingref03_Next.l0]
    by_cases hlt : i < s.size
    · rw [if_pos (by omega), if_pos (by omega), bt_nat s i hlt, nx_step (bl s) c i (by rw [bl_len]; exact hlt)]
      have hw : wrap64 ((i : Int) + 1) = ((i + 1 : Nat) : Int) := by rw [w64 _ (by omega) (by omega)]; omega
      by_cases he : (bl s)[i]'(by rw [bl_len]; exact hlt) = 97 + c
      · rw [if_pos (by omega), if_pos he, if_pos hlt, hw]
      · rw [if_neg (by omega), if_neg he, hw]
        exact next_l0 s c hs k (i + 1) (by omega) (by omega)
    · obtain rfl : i = s.size := by omega
      have := nx_end (bl s) c
      rw [bl_len] at this
      rw [if_neg (by omega), this, if_neg (by omega)]
theorem next_f (s : ByteArray) (c : Nat) (hs : s.size ≤ 61) (k i : Nat) (h : 62 ≤ k) (hi : i ≤ s.size) : tickingref03_Next.f k s i ((97 + c : Nat) : Int) = some (if nx (bl s) c i < s.size then ((nx (bl s) c i + 1 : Nat) : Int) else -1) :=
  next_l0 s c hs k i (by omega) hi


theorem letters_l0 (s : ByteArray) (c : Nat) (hc : c ≤ 4) (hs : s.size ≤ 61) : ∀ (k i : Nat), s.size + 1 ≤ k + i → i ≤ s.size → tickingref03_Letters.l0 k s (c : Int) i = some (((bl s).drop i).all fun x => decide (97 ≤ x ∧ x < 97 + c))
  | 0, i, h, hi => by omega
  | k + 1, i, h, hi => by
    rw [tickingref03_Letters.l0]
    by_cases hlt : i < s.size
    · have hw : wrap64 ((i : Int) + 1) = ((i + 1 : Nat) : Int) := by rw [w64 _ (by omega) (by omega)]; omega
      have hb : (bl s)[i]'(by rw [bl_len]; exact hlt) < 256 := by rw [bl_get s i hlt]; exact s[i].toNat_lt
      rw [if_pos (by omega), if_pos (by omega), bt_nat s i hlt, drop_at (by rw [bl_len]; exact hlt), List.all_cons, hw, letters_l0 s c hc hs k (i + 1) (by omega) (by omega)]
      by_cases h1 : 97 ≤ (bl s)[i]'(by rw [bl_len]; exact hlt)
      · rw [if_neg (by omega)]
        by_cases h2 : (bl s)[i]'(by rw [bl_len]; exact hlt) < 97 + c
        · rw [if_neg (by omega), decide_eq_true ⟨h1, h2⟩, Bool.true_and]
        · rw [if_pos (by omega), decide_eq_false (fun h => h2 h.2), Bool.false_and]
      · rw [if_pos (by omega), decide_eq_false (fun h => h1 h.1), Bool.false_and]
    · obtain rfl : i = s.size := by omega
      rw [if_neg (by omega), List.drop_eq_nil_of_le (by rw [bl_len]; omega)]; rfl
theorem word_f (s : ByteArray) (hs : s.size ≤ 61) (k : Nat) (h : 62 ≤ k) : tickingref03_Word.f k s = some (isW s) := by
  unfold tickingref03_Word.f isW
  by_cases h60 : s.size ≤ 60
  · rw [if_pos (by omega)]
    have := letters_l0 s 4 (by omega) hs k 0 (by omega) (by omega)
    unfold tickingref03_Letters.f
    have e : ((4 : Nat) : Int) = 4 := rfl
    have e0 : ((0 : Nat) : Int) = 0 := rfl
    rw [e, e0, List.drop_zero] at this
    rw [this, decide_eq_true h60, Bool.true_and]
    simp only [Option.bind_some]
    congr 2
    funext x
    congr 1
    apply propext
    omega
  · rw [if_neg (by omega), decide_eq_false h60, Bool.false_and]


theorem within_l0 (u w : ByteArray) (hu : isW u = true) (hw : w.size ≤ 60) : ∀ (k j i : Nat) (acc : List Nat), 200 ≤ k + j → j ≤ u.size → i ≤ w.size → acc.length ≤ j →
    tickingref03_Within.l0 k u w (zs acc) (i : Int) (j : Int) = some (match wn ((bl u).drop j) (bl w) i with | some l => (zs (acc ++ l), true) | none => ([], false))
  | 0, j, i, acc, h, hj, _, _ => by
    have := ((isW_iff u).1 hu).1
    omega
  | k + 1, j, i, acc, h, hj, hi, hacc => by
    obtain ⟨hu60, hl⟩ := (isW_iff u).1 hu
    rw [tickingref03_Within.l0]
    by_cases hlt : j < u.size
    · obtain ⟨h97, h100⟩ := hl j hlt
      have hg := bl_get u j hlt
      rw [if_pos (by omega), if_pos (by omega), bt_nat u j hlt, drop_at (by rw [bl_len]; exact hlt)]
      obtain ⟨c, hc⟩ : ∃ c, (bl u)[j]'(by rw [bl_len]; exact hlt) = 97 + c := ⟨u[j].toNat - 97, by omega⟩
      rw [hc, next_f w c (by omega) k i (by omega) hi, Option.bind_some, wn, show 97 + c - 97 = c by omega, bl_len]
      by_cases hn : nx (bl w) c i < w.size
      · rw [if_pos hn, if_pos hn, if_neg (by omega), if_pos (by rw [zs_len]; omega), w64 _ (by omega) (by omega), w64 _ (by omega) (by omega)]
        have e1 : zs acc ++ [((nx (bl w) c i + 1 : Nat) : Int) - 1] = zs (acc ++ [nx (bl w) c i]) := by rw [zs_snoc]; congr 2; omega
        have e2 : ((j : Int) + 1) = ((j + 1 : Nat) : Int) := by omega
        rw [e1, e2, within_l0 u w hu hw k (j + 1) (nx (bl w) c i + 1) (acc ++ [nx (bl w) c i]) (by omega) (by omega) (by omega) (by simp; omega)]
        cases wn ((bl u).drop (j + 1)) (bl w) (nx (bl w) c i + 1) <;> simp
      · rw [if_neg hn, if_neg hn, if_pos (by omega)]
    · obtain rfl : j = u.size := by omega
      rw [if_neg (by omega), List.drop_eq_nil_of_le (by rw [bl_len]; omega), wn]
      simp
theorem within_f (u w : ByteArray) (hu : isW u = true) (hw : w.size ≤ 60) (k : Nat) (h : 200 ≤ k) :
    tickingref03_Within.f k u w = some (match wn (bl u) (bl w) 0 with | some l => (zs l, true) | none => ([], false)) := by
  have := within_l0 u w hu hw k 0 0 [] (by omega) (by omega) (by omega) (Nat.le_refl _)
  rw [List.drop_zero] at this
  exact this


theorem ints_l0 (a : List Int) (n : Nat) (ha : a.length ≤ n) (hn : n ≤ 100000) : ∀ (d i k : Nat), i + d = a.length → d + 1 ≤ k → tickinglaw03_ints.l0 k a a (i : Int) = some true
  | d, i, 0, hd, hk => by omega
  | 0, i, k + 1, hd, hk => by rw [tickinglaw03_ints.l0, if_neg (by omega)]
  | d + 1, i, k + 1, hd, hk => by
    rw [tickinglaw03_ints.l0, if_pos (by omega), if_pos (by omega), if_pos (by omega), if_pos rfl, w64 _ (by omega) (by omega), show (i : Int) + 1 = ((i + 1 : Nat) : Int) by omega]
    exact ints_l0 a n ha hn d (i + 1) k (by omega) (by omega)
theorem ints_same (a : List Int) (n : Nat) (ha : a.length ≤ n) (k : Nat) (hk : n + 1 ≤ k) (hn : n ≤ 100000 := by omega) : tickinglaw03_ints.f k a a = some true := by
  unfold tickinglaw03_ints.f
  rw [if_pos rfl]
  exact ints_l0 a n ha hn a.length 0 k (by omega) (by omega)

theorem strOfNums_one (c : Nat) : strOfNums [((97 + c : Nat) : Int)] = str [97 + c] := by
  unfold strOfNums str
  simp only [List.map_cons, List.map_nil, Int.toNat_natCast]
/-- A row of the reference's table. -/
def rowL (u w : ByteArray) (r : Nat) : List Int := (List.range (w.size + 1)).map fun c => ((mo ((bl u).drop r) ((bl w).drop c) : Nat) : Int)
theorem rowL_len (u w : ByteArray) (r : Nat) : (rowL u w r).length = w.size + 1 := by simp [rowL]
theorem rowL_at (u w : ByteArray) (r c : Nat) (h : c ≤ w.size) : rd (rowL u w r) (c : Int) = ((mo ((bl u).drop r) ((bl w).drop c) : Nat) : Int) := rd_at (by unfold rowL; rw [List.getElem?_map, List.getElem?_range (by omega)]; rfl)
theorem rdL2_at {L : List (List Int)} {r : Nat} {x : List Int} (h : L[r]? = some x) : rd_L2 L (r : Int) = x := by
  unfold rd_L2
  rw [List.getD_eq_getElem?_getD, Int.toNat_natCast, h]; rfl
structure RW (u w : ByteArray) (i n : Nat) (row : List Int) : Prop where
  len : row.length = w.size + 1
  at_ : ∀ c, n ≤ c → c ≤ w.size → row[c]? = some ((mo ((bl u).drop i) ((bl w).drop c) : Nat) : Int)
theorem RW.all {u w : ByteArray} {i : Nat} {row : List Int} (h : RW u w i 0 row) : row = rowL u w i := by
  apply List.ext_getElem?
  intro r
  by_cases hr : r ≤ w.size
  · rw [h.at_ r (by omega) hr]
    unfold rowL
    rw [List.getElem?_map, List.getElem?_range (by omega)]; rfl
  · rw [List.getElem?_eq_none (by rw [h.len]; omega), List.getElem?_eq_none (by rw [rowL_len]; omega)]

theorem longest_l1 (u w : ByteArray) (hu : u.size ≤ 60) (hw : w.size ≤ 60) (T : List (List Int)) (hT : T.length = u.size + 1) (i : Nat) (hi : i < u.size) (h1 : T[i + 1]? = some (rowL u w (i + 1))) (out : Option ByteArray) (F : Nat)
    (ih : ∀ k, F ≤ k → tickingref03_Longest.l0 k u w (T.set i (rowL u w i)) ((i : Int) - 1) = out) : ∀ (n k : Nat) (row : List Int), n ≤ w.size → F + 2 * n + 2 ≤ k → RW u w i n row → tickingref03_Longest.l1 k u w T (i : Int) row ((n : Int) - 1) = out
  | 0, 0, row, hn, hk, hr => by omega
  | 0, 1, row, hn, hk, hr => by omega
  | 0, k + 2, row, hn, hk, hr => by
    rw [tickingref03_Longest.l1, if_neg (by omega), tickingref03_Longest.j2, if_neg (by simp), if_pos (by omega), if_pos (by omega), hr.all, Int.toNat_natCast, w64 _ (by omega) (by omega)]
    exact ih k (by omega)
  | n + 1, 0, row, hn, hk, hr => by omega
  | n + 1, 1, row, hn, hk, hr => by omega
  | n + 1, k + 2, row, hn, hk, hr => by
    have e1 : (((n + 1 : Nat) : Int) - 1) = (n : Int) := by omega
    have e2 : ((n : Int) + 1) = ((n + 1 : Nat) : Int) := by omega
    have e3 : ((i : Int) + 1) = ((i + 1 : Nat) : Int) := by omega
    have hlt : n < w.size := by omega
    have l1 := (mo_le ((bl u).drop (i + 1)) ((bl w).drop n)).1
    have l2 := (mo_le ((bl u).drop i) ((bl w).drop (n + 1))).1
    have l3 := (mo_le ((bl u).drop (i + 1)) ((bl w).drop (n + 1))).1
    rw [List.length_drop, bl_len] at l1 l2 l3
    have hmc : mo ((bl u).drop i) ((bl w).drop n) = if (bl u)[i]'(by rw [bl_len]; exact hi) = (bl w)[n]'(by rw [bl_len]; exact hlt) then max (max (mo ((bl u).drop (i + 1)) ((bl w).drop n)) (mo ((bl u).drop i) ((bl w).drop (n + 1)))) (1 + mo ((bl u).drop (i + 1)) ((bl w).drop (n + 1))) else max (mo ((bl u).drop (i + 1)) ((bl w).drop n)) (mo ((bl u).drop i) ((bl w).drop (n + 1))) := by
      rw [drop_at (l := bl u) (k := i) (by rw [bl_len]; exact hi), drop_at (l := bl w) (k := n) (by rw [bl_len]; exact hlt), mo_cons]
    rw [e1, tickingref03_Longest.l1, if_pos (by omega), decide_eq_true (by omega), tickingref03_Longest.j2, if_pos rfl, w64 _ (by omega) (by omega), w64 _ (by omega) (by omega), e2, e3, rdL2_at h1, rowL_len, rowL_at u w (i + 1) n (by omega), rowL_at u w (i + 1) (n + 1) (by omega), rd_at (hr.at_ (n + 1) (by omega) (by omega))]
    rw [if_pos (by omega), if_pos (by rw [hr.len]; omega), if_pos (by omega), if_pos (by omega), if_pos (by omega), if_pos (by omega), if_pos (by rw [hr.len]; omega), Option.bind_some, if_pos (by omega), if_pos (by omega), if_pos (by omega), bt_nat u i hi, bt_nat w n hlt]
    generalize mo ((bl u).drop (i + 1)) ((bl w).drop n) = p1 at l1 hmc ⊢
    generalize mo ((bl u).drop i) ((bl w).drop (n + 1)) = p2 at l2 hmc ⊢
    generalize mo ((bl u).drop (i + 1)) ((bl w).drop (n + 1)) = p3 at l3 hmc ⊢
    have hm1 : mx (p1 : Int) (p2 : Int) = mx (p2 : Int) (p1 : Int) := by unfold mx; split <;> split <;> omega
    have hsetg : ∀ v : Int, (row.set n v)[n]? = some v := fun v => List.getElem?_set_self (by rw [hr.len]; omega)
    have e4 : ((n : Int) - 1) = ((n : Nat) : Int) - 1 := rfl
    by_cases he : (bl u)[i]'(by rw [bl_len]; exact hi) = (bl w)[n]'(by rw [bl_len]; exact hlt)
    · rw [if_pos (by omega), if_pos (by omega), Int.toNat_natCast, rd_at (hsetg _), w64 _ (by omega) (by omega), w64 _ (by omega) (by omega)]
      refine longest_l1 u w hu hw T hT i hi h1 out F ih n k _ (by omega) (by omega) ⟨by rw [List.length_set, List.length_set, hr.len], fun c hc1 hc2 => ?_⟩
      by_cases hc : c = n
      · subst hc
        rw [List.getElem?_set_self (by rw [List.length_set, hr.len]; omega), hmc, if_pos he]
        congr 1
        unfold mx; split <;> split <;> omega
      · rw [List.getElem?_set_ne (by omega), List.getElem?_set_ne (by omega)]
        exact hr.at_ c (by omega) hc2
    · rw [if_neg (by omega), Int.toNat_natCast, w64 _ (by omega) (by omega)]
      refine longest_l1 u w hu hw T hT i hi h1 out F ih n k _ (by omega) (by omega) ⟨by rw [List.length_set, hr.len], fun c hc1 hc2 => ?_⟩
      by_cases hc : c = n
      · subst hc
        rw [hsetg, hmc, if_neg he]
        congr 1
        unfold mx; split <;> omega
      · rw [List.getElem?_set_ne (by omega)]
        exact hr.at_ c (by omega) hc2

structure BT (u w : ByteArray) (m : Nat) (T : List (List Int)) : Prop where
  len : T.length = u.size + 1
  at_ : ∀ r, m ≤ r → r ≤ u.size → T[r]? = some (rowL u w r)

theorem longest_l0 (u w : ByteArray) (hu : u.size ≤ 60) (hw : w.size ≤ 60) (out : Option ByteArray) (F : Nat)
    (ih : ∀ k T, F ≤ k → BT u w 0 T → tickingref03_Longest.l2 k u w T (⟨#[]⟩ : ByteArray) 0 0 = out) : ∀ (m k : Nat) (T : List (List Int)), m ≤ u.size + 1 → F + 130 * m + 2 ≤ k → BT u w m T → tickingref03_Longest.l0 k u w T ((m : Int) - 1) = out
  | m, 0, T, hm, hk, hT => by omega
  | 0, k + 1, T, hm, hk, hT => by
    rw [tickingref03_Longest.l0, if_neg (by omega)]
    exact ih k T (by omega) hT
  | i + 1, k + 1, T, hm, hk, hT => by
    have e1 : (((i + 1 : Nat) : Int) - 1) = (i : Int) := by omega
    rw [e1, tickingref03_Longest.l0, if_pos (by omega), w64 _ (by omega) (by omega), if_pos (by omega), if_pos (by omega), w64 _ (by omega) (by omega)]
    have hz : ((w.size : Int) + 1).toNat = w.size + 1 := by omega
    rw [hz]
    by_cases hi : i < u.size
    · refine longest_l1 u w hu hw T hT.len i hi (hT.at_ _ (by omega) (by omega)) out (F + 130 * i + 2) (fun k hk => ?_) w.size k _ (Nat.le_refl _) (by omega) ⟨by simp, fun c h1 h2 => ?_⟩
      · refine longest_l0 u w hu hw out F ih i k _ (by omega) hk ⟨by rw [List.length_set, hT.len], fun r h1 h2 => ?_⟩
        by_cases hr : r = i
        · subst hr; rw [List.getElem?_set_self (by rw [hT.len]; omega)]
        · rw [List.getElem?_set_ne (by omega)]; exact hT.at_ r (by omega) h2
      · obtain rfl : c = w.size := by omega
        rw [List.getElem?_replicate, if_pos (by omega), show (bl w).drop w.size = [] from List.drop_eq_nil_of_le (by rw [bl_len]; exact Nat.le_refl _), mo_nil2]; rfl
    · obtain rfl : i = u.size := by omega
      obtain ⟨k, rfl⟩ : ∃ q, k = q + 2 := ⟨k - 2, by omega⟩
      have hrow : List.replicate (w.size + 1) (0 : Int) = rowL u w u.size := by
        apply List.ext_getElem?
        intro r
        unfold rowL
        rw [List.getElem?_map, show (bl u).drop u.size = [] from List.drop_eq_nil_of_le (by rw [bl_len]; exact Nat.le_refl _), List.getElem?_replicate]
        by_cases hr : r < w.size + 1
        · rw [if_pos hr, List.getElem?_range hr]; rfl
        · rw [if_neg hr, List.getElem?_eq_none (by simp; omega)]; rfl
      have hfin : ∀ q, F + 130 * u.size + 2 ≤ q → tickingref03_Longest.l0 q u w (T.set u.size (rowL u w u.size)) ((u.size : Int) - 1) = out := fun q hq =>
        longest_l0 u w hu hw out F ih u.size q _ (by omega) hq ⟨by rw [List.length_set, hT.len], fun r h1 h2 => by
          by_cases hr : r = u.size
          · subst hr; rw [List.getElem?_set_self (by rw [hT.len]; omega)]
          · omega⟩
      rw [hrow]
      have hj : ∀ q (y : Int), F + 130 * u.size + 2 ≤ q → tickingref03_Longest.j2 (q + 1) u w T (u.size : Int) (rowL u w u.size) y false = out := fun q y hq => by
        rw [tickingref03_Longest.j2, if_neg (by simp), if_pos (by omega), if_pos (by rw [hT.len]; omega), Int.toNat_natCast, w64 _ (by omega) (by omega)]
        exact hfin q hq
      rw [tickingref03_Longest.l1]
      by_cases hc : (w.size : Int) - 1 ≥ 0
      · rw [if_pos hc, decide_eq_false (by omega)]; exact hj k _ (by omega)
      · rw [if_neg hc]; exact hj k _ (by omega)

theorem longest_l3 (u w : ByteArray) (hu : isW u = true) (hw : isW w = true) (T : List (List Int)) (hT : BT u w 0 T) (i j : Nat) (hi : i ≤ u.size) (hj : j ≤ w.size) (acc : List Nat) (hacc : acc.length ≤ i) (x : Nat) (hx : x < 4) (hp : lgP (bl u) (bl w) i j x = true) (out : Option ByteArray) (F : Nat) (hF : 70 ≤ F)
    (ih : ∀ k, F ≤ k → tickingref03_Longest.l2 k u w T (str (acc ++ [97 + x])) ((nx (bl u) x i + 1 : Nat) : Int) ((nx (bl w) x j + 1 : Nat) : Int) = out) :
    ∀ (d c k : Nat), c + d = x → F + d + 1 ≤ k → (∀ y, c ≤ y → y < x → lgP (bl u) (bl w) i j y = false) → tickingref03_Longest.l3 k u w T (str acc) (i : Int) (j : Int) ((97 + c : Nat) : Int) = out
  | d, c, 0, hc, hk, hn => by omega
  | d, c, k + 1, hc, hk, hn => by
    have hu60 := ((isW_iff u).1 hu).1
    have hw60 := ((isW_iff w).1 hw).1
    have hmod : (((97 + c : Nat) : Int) + 1) % 256 = ((97 + (c + 1) : Nat) : Int) := by omega
    have hnext : ∀ d', d = d' + 1 → tickingref03_Longest.l3 k u w T (str acc) (i : Int) (j : Int) ((97 + (c + 1) : Nat) : Int) = out := fun d' hd =>
      longest_l3 u w hu hw T hT i j hi hj acc hacc x hx hp out F hF ih d' (c + 1) k (by omega) (by omega) (fun y h1 h2 => hn y (by omega) h2)
    have hdl : ∀ c, lgP (bl u) (bl w) i j c = ((decide (nx (bl u) c i < u.size) && decide (nx (bl w) c j < w.size)) && (1 + mo ((bl u).drop (nx (bl u) c i + 1)) ((bl w).drop (nx (bl w) c j + 1)) == mo ((bl u).drop i) ((bl w).drop j))) := fun c => by
      unfold lgP; rw [bl_len, bl_len]
    rw [tickingref03_Longest.l3, if_pos (by omega), next_f u c (by omega) k i (by omega) hi, Option.bind_some, next_f w c (by omega) k j (by omega) hj, Option.bind_some]
    by_cases h1 : nx (bl u) c i < u.size
    · rw [if_pos h1, if_pos (by omega)]
      by_cases h2 : nx (bl w) c j < w.size
      · have l1 := (mo_le ((bl u).drop (nx (bl u) c i + 1)) ((bl w).drop (nx (bl w) c j + 1))).1
        rw [List.length_drop, bl_len] at l1
        rw [if_pos h2, if_pos (by omega), rdL2_at (hT.at_ (nx (bl u) c i + 1) (by omega) (by omega)), rdL2_at (hT.at_ i (by omega) hi), rowL_len, rowL_len, hT.len, rowL_at u w _ _ (show nx (bl w) c j + 1 ≤ w.size by omega), rowL_at u w i j hj, w64 _ (by omega) (by omega)]
        rw [if_pos (by omega), if_pos (by omega), if_pos (by omega), if_pos (by omega), if_pos (by omega), if_pos (by omega), if_pos (by omega), if_pos (by omega)]
        by_cases hq : 1 + mo ((bl u).drop (nx (bl u) c i + 1)) ((bl w).drop (nx (bl w) c j + 1)) = mo ((bl u).drop i) ((bl w).drop j)
        · have hcx : c = x := by
            by_cases e : c = x
            · exact e
            · have := hn c (Nat.le_refl _) (by omega)
              rw [hdl, decide_eq_true h1, decide_eq_true h2] at this
              simp [hq] at this
          subst hcx
          rw [if_pos (by omega), Option.bind_some, strOfNums_one, if_pos (by rw [str_size, str_size]; simp only [List.length_cons, List.length_nil]; omega), str_append]
          exact ih k (by omega)
        · have hcx : c ≠ x := by
            rintro rfl
            rw [hdl] at hp
            simp [hq] at hp
          rw [if_neg (by omega), hmod]
          exact hnext (d - 1) (by omega)
      · have hcx : c ≠ x := by
          rintro rfl
          rw [hdl] at hp
          simp [h2] at hp
        rw [if_neg h2, if_neg (by omega), hmod]
        exact hnext (d - 1) (by omega)
    · have hcx : c ≠ x := by
        rintro rfl
        rw [hdl] at hp
        simp [h1] at hp
      rw [if_neg h1, if_neg (by omega), hmod]
      exact hnext (d - 1) (by omega)

theorem longest_l2 (u w : ByteArray) (hu : isW u = true) (hw : isW w = true) (T : List (List Int)) (hT : BT u w 0 T) : ∀ (f i j k : Nat) (acc : List Nat), u.size + 1 ≤ f + i → i ≤ u.size → j ≤ w.size → acc.length ≤ i → 6 * f + 80 ≤ k →
    tickingref03_Longest.l2 k u w T (str acc) (i : Int) (j : Int) = some (str (acc ++ lg (bl u) (bl w) f i j))
  | f, i, j, 0, acc, hf, hi, hj, hacc, hk => by omega
  | 0, i, j, k + 1, acc, hf, hi, hj, hacc, hk => by omega
  | f + 1, i, j, k + 1, acc, hf, hi, hj, hacc, hk => by
    rw [tickingref03_Longest.l2, rdL2_at (hT.at_ i (by omega) hi), rowL_len, hT.len, rowL_at u w i j hj, if_pos (by omega), if_pos (by omega), if_pos (by omega), if_pos (by omega), lg]
    by_cases h0 : mo ((bl u).drop i) ((bl w).drop j) = 0
    · rw [if_neg (by omega), if_pos h0, List.append_nil]
    · rw [if_pos (by omega), if_neg h0]
      obtain ⟨x, hx, hfind, hp⟩ := lg_find (bl u) (bl w) (lt_of_isW hu) i j (by rw [bl_len]; exact hi) (by rw [bl_len]; exact hj) h0
      have hle := lgP_true hp
      rw [bl_len, bl_len] at hle
      have hge := nx_ge (bl u) x i
      rw [hfind]
      simp only
      refine longest_l3 u w hu hw T hT i j hi hj acc hacc x hx hp _ (6 * f + 80) (by omega) (fun q hq => ?_) x 0 k (by omega) (by omega) (fun y _ hy => ?_)
      · rw [longest_l2 u w hu hw T hT f _ _ q _ (by omega) (by omega) (by omega) (by simp; omega) hq, List.append_assoc]; rfl
      · have := (List.find?_range_eq_some.1 hfind).2.2 y hy
        simpa using this

theorem longest_f (u w : ByteArray) (hu : isW u = true) (hw : isW w = true) (k : Nat) (h : 9000 ≤ k) : tickingref03_Longest.f k u w = some (str (lg (bl u) (bl w) 61 0 0)) := by
  have hu60 := ((isW_iff u).1 hu).1
  have hw60 := ((isW_iff w).1 hw).1
  unfold tickingref03_Longest.f
  rw [w64 _ (by omega) (by omega), if_pos (by omega), if_pos (by omega)]
  have e1 : (u.size : Int) = ((u.size + 1 : Nat) : Int) - 1 := by omega
  have hz : ((u.size : Int) + 1).toNat = u.size + 1 := by omega
  rw [hz]
  rw [e1]
  refine longest_l0 u w hu60 hw60 _ 500 (fun q T hq hT => ?_) (u.size + 1) k _ (Nat.le_refl _) (by omega) ⟨by simp, fun r h1 h2 => by omega⟩
  have es : (⟨#[]⟩ : ByteArray) = str [] := rfl
  have e0 : (0 : Int) = ((0 : Nat) : Int) := rfl
  rw [es, e0]
  exact longest_l2 u w hu hw T hT 61 0 0 q [] (by omega) (Nat.zero_le _) (Nat.zero_le _) (Nat.le_refl _) (by omega)

theorem short_f (a : ByteArray) : ∃ t, tickinglaw03_short.f a = some t ∧ t.size ≤ 61 := by
  unfold tickinglaw03_short.f
  have hm : mn (a.size : Int) 61 ≤ 61 ∧ mn (a.size : Int) 61 ≤ a.size ∧ 0 ≤ mn (a.size : Int) 61 := by unfold mn; split <;> omega
  rw [if_pos hm.2.2, if_pos hm.2.1]
  refine ⟨_, rfl, ?_⟩
  rw [ByteArray.size_extract]
  omega


theorem wn_len : ∀ (a b : List Nat) (i : Nat) (ps : List Nat), wn a b i = some ps → ps.length = a.length := by
  intro a
  induction a with
  | nil => intro b i ps h; rw [wn] at h; cases h; rfl
  | cons x a ih =>
    intro b i ps h
    rw [wn] at h
    split at h
    · obtain ⟨q, hq, rfl⟩ := Option.map_eq_some_iff.1 h
      simp [ih _ _ _ hq]
    · cases h

theorem within_yes (u w L : ByteArray) (K : Nat) (hK : 9600 ≤ K) (huu : isW u = true) (hww : isW w = true) (hlf : tickingref03_Longest.f (K + 1) u w = some L) (X : List Int) (e : Int) (hX : Given.thread_Within.f u w = some (X, e)) :
    tickinglaw03_ThreadWithin.j0 (K + 2) u w X e L 0 false = some true := by
  rw [tickinglaw03_ThreadWithin.j0, if_neg (by simp), hlf, Option.bind_some, if_pos rfl, tickinglaw03_ThreadWithin.j1, if_neg (by simp)]
  have h60 := ((isW_iff w).1 hww).1
  have hul := ((isW_iff u).1 huu).1
  rw [within_f u w huu h60 K (by omega)]
  unfold Given.thread_Within.f at hX
  rw [if_pos huu, if_pos hww] at hX
  cases hwn : wn (bl u) (bl w) 0 with
  | none =>
    rw [hwn] at hX
    obtain ⟨rfl, rfl⟩ := Prod.mk.inj (Option.some.inj hX)
    rw [Option.bind_some, if_neg (by simp), if_pos (by simp), if_pos rfl, awake_k K (by omega), Option.bind_some]
  | some l =>
    rw [hwn] at hX
    obtain ⟨rfl, rfl⟩ := Prod.mk.inj (Option.some.inj hX)
    have hl := wn_len _ _ _ _ hwn
    rw [bl_len] at hl
    rw [Option.bind_some, if_pos rfl, ints_same (zs l) 200 (by rw [zs_len]; omega) K (by omega), Option.bind_some, if_pos rfl, if_pos rfl, awake_k K (by omega), Option.bind_some]

theorem within_no (u w : ByteArray) (K : Nat) (hK : 9600 ≤ K) : tickinglaw03_ThreadWithin.j0 (K + 2) u w [] 2 (⟨#[]⟩ : ByteArray) 2 true = some true := by
  rw [tickinglaw03_ThreadWithin.j0, if_pos rfl, if_pos (by simp), if_pos rfl, if_pos (by rw [ByteArray.toList_eq]), if_pos rfl, awake_k (K + 1) (by omega), Option.bind_some]

theorem ThreadWithin : tickinglaw03_ThreadWithin.Pure := by
  intro a0 a1 _ _
  suffices h : ∀ K, 9600 ≤ K → tickinglaw03_ThreadWithin.f (K + 2) a0 a1 = some true from ⟨9600 + 2, h 9600 (Nat.le_refl _)⟩
  intro K hK
  obtain ⟨u, hu, hu61⟩ := short_f a0
  obtain ⟨w, hw, hw61⟩ := short_f a1
  unfold tickinglaw03_ThreadWithin.f
  rw [hu, Option.bind_some, hw, Option.bind_some]
  cases huu : isW u with
  | false =>
    have h1 : Given.thread_Within.f u w = some ([], 2) := by
      unfold Given.thread_Within.f; rw [huu, if_neg (by simp)]
    have h2 : Given.thread_Longest.f u w = some (⟨#[]⟩, 2) := by
      unfold Given.thread_Longest.f; rw [huu, if_neg (by simp)]
    rw [h1, Option.bind_some, h2, Option.bind_some, word_f u hu61 (K + 2) (by omega), Option.bind_some, huu, if_neg (by simp)]
    exact within_no u w K hK
  | true =>
    cases hww : isW w with
    | false =>
      have h1 : Given.thread_Within.f u w = some ([], 2) := by
        unfold Given.thread_Within.f; rw [huu, hww, if_pos rfl, if_neg (by simp)]
      have h2 : Given.thread_Longest.f u w = some (⟨#[]⟩, 2) := by
        unfold Given.thread_Longest.f; rw [huu, hww, if_pos rfl, if_neg (by simp)]
      rw [h1, Option.bind_some, h2, Option.bind_some, word_f u hu61 (K + 2) (by omega), Option.bind_some, huu, if_pos rfl, word_f w hw61 (K + 2) (by omega), Option.bind_some, hww]
      exact within_no u w K hK
    | true =>
      have h2 : Given.thread_Longest.f u w = some (str (lg (bl u) (bl w) 61 0 0), 0) := by
        unfold Given.thread_Longest.f; rw [huu, hww, if_pos rfl, if_pos rfl]
      have hlf := longest_f u w huu hww (K + 1) (by omega)
      generalize str (lg (bl u) (bl w) 61 0 0) = L at h2 hlf
      obtain ⟨X, e, h1⟩ : ∃ X e, Given.thread_Within.f u w = some (X, e) := ⟨_, _, rfl⟩
      rw [h1, Option.bind_some, h2, Option.bind_some, word_f u hu61 (K + 2) (by omega), Option.bind_some, huu, if_pos rfl, word_f w hw61 (K + 2) (by omega), Option.bind_some, hww]
      exact within_yes u w L K hK huu hww hlf X e h1

end Go.Proofs.Ytfjbodaakmapdaa.Pure
