/-
  ThreadRanked: the law's plain side: ranks and items of a word invert each other, in the order of strings.
-/
import Derived.Test.YtfjbodaakmapdaaPThreadRankedx2
import Derived.Test.YtfjbodaakmapdaaSub
import Derived.Test.YtfjbodaakmapdaaLets
namespace Go.Proofs.Ytfjbodaakmapdaa.Pure
open Go.RowKit Go.Proofs.Ytfjbodaakmapdaa Go.Proofs.Ytfjbodaakmapdaa.Th Go.Proofs.Ytfjbodaakmapdaa.PThreadRanked Go.Proofs.YtfjbodaakmapdaaW.PrintWords Go.Proofs.YtfjbodaakmapdaaW.PrintLast
theorem awake_true : tickinglaw03_awake.f 10 = some true := by kernel_rfl
theorem awake_k (k : Nat) (h : 10 ≤ k) : tickinglaw03_awake.f k = some true := by
  obtain ⟨d, rfl⟩ : ∃ d, k = 10 + d := ⟨k - 10, by omega⟩
  clear h
  induction d with
  | zero => exact awake_true
  | succ d ih => exact tickinglaw03_awake.mono (10 + d) true ih
theorem w64 (x : Int) (h1 : -9223372036854775808 ≤ x) (h2 : x ≤ 9223372036854775807) : wrap64 x = x := by
  unfold wrap64; omega
theorem bt_nat (s : ByteArray) (i : Nat) (h : i < s.size) : bt s i = ((bl s)[i]'(by rw [bl_len]; exact h) : Nat) := by
  rw [bl_get s i h]
  exact (bt_at s i (by simpa using h)).symm


theorem next_l0 (s : ByteArray) (c : Nat) (hs : s.size ≤ 61) : ∀ (k i : Nat), s.size + 1 ≤ k + i → i ≤ s.size → tickingref03_Next.l0 k s ((97 + c : Nat) : Int) i = some (if nx (bl s) c i < s.size then ((nx (bl s) c i + 1 : Nat) : Int) else -1)
  | 0, i, h, hi => by omega
  | k + 1, i, h, hi => by
    rw [tickingref03_Next.l0]
    by_cases hlt : i < s.size
    · rw [if_pos (by omega), if_pos (by omega), bt_nat s i hlt, nx_step (bl s) c i (by rw [bl_len]; exact hlt)]
      have hw : wrap64 ((i : Int) + 1) = ((i + 1 : Nat) : Int) := by rw [w64 _ (by omega) (by omega)]; omega
      by_cases he : (bl s)[i]'(by rw [bl_len]; exact hlt) = 97 + c
      · rw [if_pos (by omega), if_pos he, if_pos hlt, hw]
      · rw [if_neg (by omega), if_neg he, hw]
        exact next_l0 s c hs k (i + 1) (by omega) (by omega)
    · obtain rfl : i = s.size := by omega
      have := nx_end (bl s) c
      rw [bl_len] at this
      rw [if_neg (by omega), this, if_neg (by omega)]
theorem next_f (s : ByteArray) (c : Nat) (hs : s.size ≤ 61) (k i : Nat) (h : 62 ≤ k) (hi : i ≤ s.size) : tickingref03_Next.f k s i ((97 + c : Nat) : Int) = some (if nx (bl s) c i < s.size then ((nx (bl s) c i + 1 : Nat) : Int) else -1) :=
  next_l0 s c hs k i (by omega) hi


theorem within_l0 (u w : ByteArray) (hu : isW u = true) (hw : w.size ≤ 60) : ∀ (k j i : Nat) (acc : List Nat), 200 ≤ k + j → j ≤ u.size → i ≤ w.size → acc.length ≤ j →
    tickingref03_Within.l0 k u w (zs acc) (i : Int) (j : Int) = some (match wn ((bl u).drop j) (bl w) i with | some l => (zs (acc ++ l), true) | none => ([], false))
  | 0, j, i, acc, h, hj, _, _ => by
    have := ((isW_iff u).1 hu).1
    omega
  | k + 1, j, i, acc, h, hj, hi, hacc => by
    obtain ⟨hu60, hl⟩ := (isW_iff u).1 hu
    rw [tickingref03_Within.l0]
    by_cases hlt : j < u.size
    · obtain ⟨h97, h100⟩ := hl j hlt
      have hg := bl_get u j hlt
      rw [if_pos (by omega), if_pos (by omega), bt_nat u j hlt, drop_at (by rw [bl_len]; exact hlt)]
      obtain ⟨c, hc⟩ : ∃ c, (bl u)[j]'(by rw [bl_len]; exact hlt) = 97 + c := ⟨u[j].toNat - 97, by omega⟩
      rw [hc, next_f w c (by omega) k i (by omega) hi, Option.bind_some, wn, show 97 + c - 97 = c by omega, bl_len]
      by_cases hn : nx (bl w) c i < w.size
      · rw [if_pos hn, if_pos hn, if_neg (by omega), if_pos (by rw [zs_len]; omega), w64 _ (by omega) (by omega), w64 _ (by omega) (by omega)]
        have e1 : zs acc ++ [((nx (bl w) c i + 1 : Nat) : Int) - 1] = zs (acc ++ [nx (bl w) c i]) := by rw [zs_snoc]; congr 2; omega
        have e2 : ((j : Int) + 1) = ((j + 1 : Nat) : Int) := by omega
        rw [e1, e2, within_l0 u w hu hw k (j + 1) (nx (bl w) c i + 1) (acc ++ [nx (bl w) c i]) (by omega) (by omega) (by omega) (by simp; omega)]
        cases wn ((bl u).drop (j + 1)) (bl w) (nx (bl w) c i + 1) <;> simp
      · rw [if_neg hn, if_neg hn, if_pos (by omega)]
    · obtain rfl : j = u.size := by omega
      rw [if_neg (by omega), List.drop_eq_nil_of_le (by rw [bl_len]; omega), wn]
      simp
theorem within_f (u w : ByteArray) (hu : isW u = true) (hw : w.size ≤ 60) (k : Nat) (h : 200 ≤ k) :
    tickingref03_Within.f k u w = some (match wn (bl u) (bl w) 0 with | some l => (zs l, true) | none => ([], false)) := by
  have := within_l0 u w hu hw k 0 0 [] (by omega) (by omega) (by omega) (Nat.le_refl _)
  rw [List.drop_zero] at this
  exact this


theorem mod_f (a : Int) (n : Nat) (h1 : 1 ≤ n) (h2 : n ≤ 1152921504606846976) : ∃ r : Nat, r < n ∧ tickinglaw03_mod.f a n = some (r : Int) := by
  unfold tickinglaw03_mod.f
  have hw : IntKind.u64.wrap (n : Int) = n := by
    simp [IntKind.wrap, IntKind.bits, IntKind.signed]; omega
  have ha : 0 ≤ IntKind.u64.wrap a := by
    simp [IntKind.wrap, IntKind.bits, IntKind.signed]; omega
  rw [hw, if_neg (by omega)]
  refine ⟨(Int.tmod (IntKind.u64.wrap a) n).toNat, ?_, ?_⟩
  · have h3 := Int.tmod_lt_of_pos (IntKind.u64.wrap a) (show (0 : Int) < n by omega)
    have h4 := Int.tmod_nonneg (n : Int) ha
    omega
  · have h3 := Int.tmod_lt_of_pos (IntKind.u64.wrap a) (show (0 : Int) < n by omega)
    have h4 := Int.tmod_nonneg (n : Int) ha
    rw [w64 _ (by omega) (by omega)]
    congr 1; omega

theorem less_str : ∀ (a b : List Nat), (∀ x ∈ a, x < 256) → (∀ x ∈ b, x < 256) → a < b → Op.bytesLess (str a).toList (str b).toList = true := by
  intro a b ha hb h
  have e : ∀ l : List Nat, (str l).toList = l.map UInt8.ofNat := fun l => by rw [ByteArray.toList_eq]; rfl
  rw [e, e]
  induction a generalizing b with
  | nil =>
    cases b with
    | nil => exact absurd h (by simp)
    | cons y b => rfl
  | cons x a ih =>
    cases b with
    | nil => exact absurd h (by simp)
    | cons y b =>
      have hx := ha x List.mem_cons_self
      have hy := hb y List.mem_cons_self
      have hxn : (UInt8.ofNat x).toNat = x := by rw [UInt8.toNat_ofNat']; omega
      have hyn : (UInt8.ofNat y).toNat = y := by rw [UInt8.toNat_ofNat']; omega
      rw [List.cons_lt_cons_iff] at h
      simp only [List.map_cons, Op.bytesLess]
      rcases h with h | ⟨rfl, h⟩
      · have h1 : UInt8.ofNat x < UInt8.ofNat y := by rw [UInt8.lt_iff_toNat_lt]; omega
        simp [h1]
      · have := ih b (fun z hz => ha z (List.mem_cons_of_mem _ hz)) (fun z hz => hb z (List.mem_cons_of_mem _ hz)) h
        simp [this]

theorem ThreadRanked : tickinglaw03_ThreadRanked.Pure := by
  intro a0 a1 _ _
  refine ⟨602, ?_⟩
  unfold tickinglaw03_ThreadRanked.f
  have ht := tame_f a0 60 4 (by omega) (by omega)
  have hW := isW_tml a0 60 4 (by omega) (by omega)
  have hl := tml_lt a0 60 4 (by omega)
  have hb := bl_tml a0 60 4 (by omega)
  have e60 : ((60 : Nat) : Int) = 60 := rfl
  have e4 : ((4 : Nat) : Int) = 4 := rfl
  rw [e60, e4] at ht
  rw [ht, Option.bind_some]
  generalize hs : str (tml a0 60 4) = s at hW hb
  generalize tml a0 60 4 = l at hl hb
  subst hb
  have h60 := ((isW_iff s).1 hW).1
  have hcn := cn_60 (bl s) (by rw [bl_len]; exact h60)
  have hpos := cn_pos (bl s)
  unfold Given.thread_Count.f
  rw [if_pos hW, Option.bind_some, if_pos rfl]
  rw [tickinglaw03_ThreadRanked.j0, if_neg (by simp; omega)]
  obtain ⟨r, hr, hm⟩ := mod_f a1 (cn (bl s)) hpos hcn
  simp only at hm ⊢
  rw [hm, Option.bind_some]
  unfold Given.thread_Item.f
  rw [if_pos hW, if_pos (show 0 ≤ (r : Int) ∧ (r : Int) < ((cn (bl s) : Nat) : Int) by omega), Option.bind_some, Int.toNat_natCast]
  have hil := itm_lt _ (bl s) r (Nat.le_refl _) hr
  have his := itm_sub (bl s) r hr
  have hik := itm_rk _ (bl s) r (Nat.le_refl _) hr
  have hilen := his.length_le
  rw [bl_len] at hilen
  have hiW := isW_str hil (by omega)
  have hib := bl_strL hil (by omega)
  unfold Given.thread_Index.f
  simp only
  have hix : ix (bl (str (itm (bl s) r))) (bl s) 0 0 = some r := by
    rw [hib, ix_rk _ _ _ _ (Nat.zero_le _), List.drop_zero, hik]; simp
  rw [if_pos hW, if_pos hiW, hix, Option.bind_some, within_f _ s hiW h60 601 (by omega), Option.bind_some]
  have hwn : (wn (bl (str (itm (bl s) r))) (bl s) 0).isSome = true := by
    rw [wn_sub _ _ _ (by rw [hib]; exact hil) (Nat.zero_le _), hib, List.drop_zero]; exact his
  obtain ⟨ps, hps⟩ := Option.isSome_iff_exists.1 hwn
  rw [hps]
  simp only [if_true, Bool.not_true]
  rw [tickinglaw03_ThreadRanked.j1, if_neg (by simp), w64 _ (by omega) (by omega)]
  by_cases hlast : r + 1 = cn (bl s)
  · rw [if_pos (by omega)]
    simp [awake_k 600 (by omega)]
  · rw [if_neg (by omega)]
    unfold Given.thread_Item.f
    rw [if_pos hW, if_pos (show 0 ≤ (r : Int) + 1 ∧ (r : Int) + 1 < ((cn (bl s) : Nat) : Int) by omega), Option.bind_some]
    have e1 : ((r : Int) + 1).toNat = r + 1 := by omega
    rw [e1]
    have hil2 := itm_lt _ (bl s) (r + 1) (Nat.le_refl _) (by omega)
    have hlt := less_str (itm (bl s) r) (itm (bl s) (r + 1)) (fun x hx => by have := hil x hx; omega) (fun x hx => by have := hil2 x hx; omega) (itm_mono _ (bl s) r (r + 1) (Nat.le_refl _) (by omega) (by omega))
    simp [awake_k 600 (by omega), hlt]

end Go.Proofs.Ytfjbodaakmapdaa.Pure
