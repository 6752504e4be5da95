/-
  ThreadAll: the law's plain side: the subsequences are the items.
-/
import Derived.Test.YtfjbodaakmapdaaPThreadAllx2
import Derived.Test.YtfjbodaakmapdaaSub
import Derived.Test.YtfjbodaakmapdaaLets
import Derived.Test.YtfjbodaakmapdaaUni
namespace Go.Proofs.Ytfjbodaakmapdaa.Pure
open Go.RowKit Go.Proofs.Ytfjbodaakmapdaa Go.Proofs.Ytfjbodaakmapdaa.Th Go.Proofs.Ytfjbodaakmapdaa.PThreadAll Go.Proofs.YtfjbodaakmapdaaW.PrintWords Go.Proofs.YtfjbodaakmapdaaW.PrintLast Go.Proofs.YtfjbodaakmapdaaW.PrintMore
theorem awake_true : tickinglaw03_awake.f 10 = some true := by kernel_rfl
theorem awake_k (k : Nat) (h : 10 ≤ k) : tickinglaw03_awake.f k = some true := by
  obtain ⟨d, rfl⟩ : ∃ d, k = 10 + d := ⟨k - 10, by omega⟩
  clear h
  induction d with
  | zero => exact awake_true
  | succ d ih => exact tickinglaw03_awake.mono (10 + d) true ih
theorem w64 (x : Int) (h1 : -9223372036854775808 ≤ x) (h2 : x ≤ 9223372036854775807) : wrap64 x = x := by
  unfold wrap64; omega
theorem bt_nat (s : ByteArray) (i : Nat) (h : i < s.size) : bt s i = ((bl s)[i]'(by rw [bl_len]; exact h) : Nat) := by
  rw [bl_get s i h]
  exact (bt_at s i (by simpa using h)).symm

theorem rd_at {L : List Int} {r : Nat} {x : Int} (h : L[r]? = some x) : rd L (r : Int) = x := by
  unfold rd
  rw [List.getD_eq_getElem?_getD, Int.toNat_natCast, h]; rfl


/-- The letters of a set of positions. -/
def pk : List Nat → Nat → List Nat
  | [], _ => []
  | x :: l, s => if s % 2 = 1 then x :: pk l (s / 2) else pk l (s / 2)
theorem pk_sub : ∀ (l : List Nat) (s : Nat), (pk l s).Sublist l
  | [], _ => List.Sublist.refl _
  | x :: l, s => by
    rw [pk]
    split
    · exact (pk_sub l _).cons_cons x
    · exact (pk_sub l _).cons x
theorem pk_all : ∀ (l u : List Nat), u.Sublist l → ∃ s, s < 2 ^ l.length ∧ pk l s = u
  | [], u, h => ⟨0, by simp, by rw [pk]; exact (List.sublist_nil.1 h).symm⟩
  | x :: l, u, h => by
    rw [List.sublist_cons_iff] at h
    rcases h with h | ⟨r, rfl, h⟩
    · obtain ⟨s, hs, e⟩ := pk_all l u h
      exact ⟨2 * s, by rw [List.length_cons, Nat.pow_succ]; omega, by rw [pk, if_neg (by omega), show 2 * s / 2 = s by omega, e]⟩
    · obtain ⟨s, hs, e⟩ := pk_all l r h
      exact ⟨2 * s + 1, by rw [List.length_cons, Nat.pow_succ]; omega, by rw [pk, if_pos (by omega), show (2 * s + 1) / 2 = s by omega, e]⟩

theorem shr_at (s i : Nat) (hi : i ≤ 60) : shr .i64 (s : Int) (i : Int) = ((s / 2 ^ i : Nat) : Int) := by
  unfold shr
  rw [Int.toNat_natCast, Nat.min_eq_left (show i ≤ IntKind.i64.bits by show i ≤ 64; omega)]
  rw [Int.natCast_ediv, Int.natCast_pow]; rfl
theorem shl_at (n : Nat) (hn : n ≤ 9) : shl .i64 1 (n : Int) = ((2 ^ n : Nat) : Int) := by
  rcases (show n = 0 ∨ n = 1 ∨ n = 2 ∨ n = 3 ∨ n = 4 ∨ n = 5 ∨ n = 6 ∨ n = 7 ∨ n = 8 ∨ n = 9 by omega) with rfl | rfl | rfl | rfl | rfl | rfl | rfl | rfl | rfl | rfl <;> rfl
theorem pow9 (n : Nat) (hn : n ≤ 9) : 2 ^ n ≤ 512 := Nat.le_trans (Nat.pow_le_pow_right (by omega) hn) (by decide)
theorem extract_one (t : ByteArray) (i : Nat) (h : i < t.size) : t.extract i (i + 1) = str [(bl t)[i]'(by rw [bl_len]; exact h)] := by
  have : bl (t.extract i (i + 1)) = [(bl t)[i]'(by rw [bl_len]; exact h)] := by
    unfold bl
    rw [ByteArray.data_extract, Array.toList_extract, List.extract_eq_take_drop, List.map_take, List.map_drop, drop_at (by rw [List.length_map, Array.length_toList]; exact h)]
    rw [show i + 1 - i = 1 by omega]; rfl
  rw [← str_bl (t.extract i (i + 1)), this]

theorem all_l1 (t : ByteArray) (ht : t.size ≤ 9) (L : List ByteArray) (s : Nat) (out : Option Bool) (F : Nat) : ∀ (d i k : Nat) (acc : List Nat), i + d = t.size → F + d + 1 ≤ k → acc.length ≤ i →
    (∀ k, F ≤ k → tickinglaw03_ThreadAll.l2 k t L (s : Int) (str (acc ++ pk ((bl t).drop i) (s / 2 ^ i))) false 0 = out) →
    tickinglaw03_ThreadAll.l1 k t L (s : Int) (str acc) (i : Int) = out
  | d, i, 0, acc, hd, hk, ha, h => by omega
  | 0, i, k + 1, acc, hd, hk, ha, h => by
    rw [tickinglaw03_ThreadAll.l1, if_neg (by omega)]
    have := h k (by omega)
    rwa [List.drop_eq_nil_of_le (by rw [bl_len]; omega), pk, List.append_nil] at this
  | d + 1, i, k + 1, acc, hd, hk, ha, h => by
    have hlt : i < t.size := by omega
    have e1 : ((i : Int) + 1) = ((i + 1 : Nat) : Int) := by omega
    have hp : s / 2 ^ i / 2 = s / 2 ^ (i + 1) := by rw [Nat.div_div_eq_div_mul, Nat.pow_succ]
    rw [drop_at (by rw [bl_len]; exact hlt), pk, hp] at h
    rw [tickinglaw03_ThreadAll.l1, if_pos (by omega), if_pos (by omega), shr_at s i (by omega), w64 _ (by omega) (by omega), e1]
    have hm : (Int.tmod ((s / 2 ^ i : Nat) : Int) 2 = 1) ↔ s / 2 ^ i % 2 = 1 := by
      have : Int.tmod ((s / 2 ^ i : Nat) : Int) 2 = ((s / 2 ^ i % 2 : Nat) : Int) := (Int.ofNat_tmod _ 2).symm
      rw [this]; omega
    by_cases hb : s / 2 ^ i % 2 = 1
    · rw [if_pos (hm.2 hb), if_pos (by omega), if_pos (by omega), Int.toNat_natCast, Int.toNat_natCast, extract_one t i hlt, if_pos (by rw [str_size, str_size]; simp only [List.length_cons, List.length_nil]; omega), str_append]
      refine all_l1 t ht L s out F d (i + 1) k _ (by omega) (by omega) (by simp; omega) (fun k hk => ?_)
      have := h k hk
      rwa [if_pos hb, List.append_cons] at this
    · rw [if_neg (fun h => hb (hm.1 h))]
      refine all_l1 t ht L s out F d (i + 1) k acc (by omega) (by omega) (by omega) (fun k hk => ?_)
      have := h k hk
      rwa [if_neg hb] at this

theorem str_eq {u v : List Nat} (hu : Lt 4 u) (hv : Lt 4 v) : ((str u).toList == (str v).toList) = decide (u = v) := by
  rw [Bool.eq_iff_iff, beq_iff_eq, decide_eq_true_iff]
  constructor
  · intro h
    have : str u = str v := by
      apply ByteArray.ext
      apply Array.ext'
      simpa [ByteArray.toList_eq] using h
    rw [← bl_strL hu (by omega), ← bl_strL hv (by omega), this]
  · rintro rfl; rfl
theorem rdOf_map (L : List (List Nat)) (i : Nat) (h : i < L.length) : rdOf ByteArray.empty (L.map str) (i : Int) = str L[i] := by
  unfold rdOf
  rw [List.getD_eq_getElem?_getD, Int.toNat_natCast, List.getElem?_map, List.getElem?_eq_getElem h]; rfl

theorem all_l2 (t : ByteArray) (L : List (List Nat)) (hL : ∀ u ∈ L, Lt 4 u) (hlen : L.length ≤ 512) (s : Nat) (hs : s ≤ 512) (u : List Nat) (hu : Lt 4 u) (out : Option Bool) (F : Nat) : ∀ (d i k : Nat) (fl : Bool), i + d = L.length → F + d + 1 ≤ k →
    (∀ k, F ≤ k → (if fl = true ∨ u ∈ L.drop i then tickinglaw03_ThreadAll.l0 k t (L.map str) ((s + 1 : Nat) : Int) else tickinglaw03_ThreadAll.l0 k t ((L ++ [u]).map str) ((s + 1 : Nat) : Int)) = out) →
    tickinglaw03_ThreadAll.l2 k t (L.map str) (s : Int) (str u) fl (i : Int) = out
  | d, i, 0, fl, hd, hk, h => by omega
  | 0, i, k + 1, fl, hd, hk, h => by
    have e1 : ((s : Int) + 1) = ((s + 1 : Nat) : Int) := by omega
    have := h k (by omega)
    rw [List.drop_eq_nil_of_le (by omega)] at this
    rw [tickinglaw03_ThreadAll.l2, if_neg (by rw [List.length_map]; omega), w64 _ (by omega) (by omega), e1]
    cases fl with
    | true => rw [if_pos (.inl rfl)] at this; rw [if_pos rfl]; exact this
    | false =>
      rw [if_neg (by simp)] at this
      rw [if_neg (by simp), if_pos (by rw [List.length_map]; omega)]
      rw [List.map_append] at this; exact this
  | d + 1, i, k + 1, fl, hd, hk, h => by
    have hlt : i < L.length := by omega
    have e1 : ((s : Int) + 1) = ((s + 1 : Nat) : Int) := by omega
    have e2 : ((i : Int) + 1) = ((i + 1 : Nat) : Int) := by omega
    rw [tickinglaw03_ThreadAll.l2, if_pos (by rw [List.length_map]; omega), w64 _ (by omega) (by omega), e1]
    cases fl with
    | true =>
      have := h k (by omega)
      rw [if_pos (.inl rfl)] at this; rw [if_pos rfl]; exact this
    | false =>
      rw [if_neg (by simp), if_pos (by omega), rdOf_map L i hlt, w64 _ (by omega) (by omega), e2, str_eq (hL _ (List.getElem_mem hlt)) hu]
      refine all_l2 t L hL hlen s hs u hu out F d (i + 1) k _ (by omega) (by omega) (fun k hk => ?_)
      have h2 := h k hk
      rw [List.drop_eq_getElem_cons hlt] at h2
      have e3 : (decide (L[i] = u) = true ∨ u ∈ L.drop (i + 1)) ↔ (false = true ∨ u ∈ L[i] :: L.drop (i + 1)) := by
        rw [List.mem_cons, decide_eq_true_iff]
        simp [eq_comm]
      by_cases hc : false = true ∨ u ∈ L[i] :: L.drop (i + 1)
      · rw [if_pos hc] at h2; rw [if_pos (e3.2 hc)]; exact h2
      · rw [if_neg hc] at h2; rw [if_neg (fun h => hc (e3.1 h))]; exact h2

/-- The rank of a subsequence. -/
theorem rk_of (t : ByteArray) (ht : isW t = true) (u : List Nat) (hu : u.Sublist (bl t)) : ∃ r : Nat, r < cn (bl t) ∧ itm (bl t) r = u ∧ Given.thread_Index.f t (str u) = some ((r : Int), 0) := by
  have hl := lt_of_isW ht
  have hlu := hl.sub hu
  have h60 := ((isW_iff t).1 ht).1
  have hlen := hu.length_le
  rw [bl_len] at hlen
  obtain ⟨r, hr⟩ := Option.isSome_iff_exists.1 ((rk_sub u (bl t) hlu).2 hu)
  obtain ⟨h1, h2⟩ := rk_itm u (bl t) r hlu hr
  refine ⟨r, h1, h2, ?_⟩
  have hb := bl_strL hlu (by omega)
  unfold Given.thread_Index.f
  rw [if_pos ht, if_pos (isW_str hlu (by omega)), hb, ix_rk _ _ _ _ (Nat.zero_le _), List.drop_zero, hr]
  simp

theorem all_l3 (t : ByteArray) (ht : isW t = true) (L : List (List Nat)) (hL : ∀ u ∈ L, u.Sublist (bl t)) (hn : L.Nodup) (hc : L.length = cn (bl t)) (hlen : L.length ≤ 512) : ∀ (d i k : Nat) (S : List Bool), i + d = L.length → 10 + d + 1 ≤ k → S.length = L.length →
    (∀ r, r < cn (bl t) → itm (bl t) r ∈ L.drop i → S[r]? = some false) →
    tickinglaw03_ThreadAll.l3 k t (L.map str) ((cn (bl t) : Nat) : Int) 0 S (i : Int) = some true
  | d, i, 0, S, hd, hk, hS, h => by omega
  | 0, i, k + 1, S, hd, hk, hS, h => by
    rw [tickinglaw03_ThreadAll.l3, if_neg (by rw [List.length_map]; omega), if_pos rfl, if_pos (by rw [List.length_map]; omega)]
    simp [awake_k k (by omega)]
  | d + 1, i, k + 1, S, hd, hk, hS, h => by
    have hlt : i < L.length := by omega
    have e2 : ((i : Int) + 1) = ((i + 1 : Nat) : Int) := by omega
    obtain ⟨r, hr, he, hi⟩ := rk_of t ht L[i] (hL _ (List.getElem_mem hlt))
    have hSr := h r hr (by rw [List.drop_eq_getElem_cons hlt, he]; exact List.mem_cons_self)
    rw [tickinglaw03_ThreadAll.l3, if_pos (by rw [List.length_map]; omega), if_pos (by omega), rdOf_map L i hlt, hi, Option.bind_some, if_pos rfl]
    simp only
    have hrd : rdOf false S (r : Int) = false := by
      unfold rdOf
      rw [List.getD_eq_getElem?_getD, Int.toNat_natCast, hSr]; rfl
    rw [if_neg (by omega), if_neg (by rw [List.length_map]; omega), if_pos (by omega), if_pos (by omega), hrd, if_neg (by simp), w64 _ (by omega) (by omega), e2, Int.toNat_natCast]
    refine all_l3 t ht L hL hn hc hlen d (i + 1) k _ (by omega) (by omega) (by rw [List.length_set, hS]) (fun q hq hm => ?_)
    have hne : r ≠ q := by
      rintro rfl
      rw [he] at hm
      have hd2 : (L.drop i).Nodup := hn.sublist (List.drop_sublist i L)
      rw [List.drop_eq_getElem_cons hlt, List.nodup_cons] at hd2
      exact hd2.1 hm
    rw [List.getElem?_set_ne hne]
    exact h q hq (by rw [List.drop_eq_getElem_cons hlt]; exact List.mem_cons_of_mem _ hm)

theorem all_l0 (t : ByteArray) (ht : isW t = true) (h9 : t.size ≤ 9) : ∀ (d s k : Nat) (L : List (List Nat)), s + d = 2 ^ t.size → 600 + 600 * d + 1 ≤ k → L.Nodup → L.length ≤ s → (∀ u, u ∈ L ↔ ∃ s', s' < s ∧ pk (bl t) s' = u) →
    tickinglaw03_ThreadAll.l0 k t (L.map str) (s : Int) = some true
  | d, s, 0, L, hd, hk, hn, hlen, h => by omega
  | 0, s, k + 1, L, hd, hk, hn, hlen, h => by
    have hp9 := pow9 t.size h9
    have hLs : ∀ u, u ∈ L ↔ u.Sublist (bl t) := fun u => by
      rw [h u]
      constructor
      · rintro ⟨s', _, rfl⟩; exact pk_sub _ _
      · intro hu
        obtain ⟨s', h1, h2⟩ := pk_all (bl t) u hu
        rw [bl_len] at h1
        exact ⟨s', by omega, h2⟩
    have hc := all_count (bl t) (lt_of_isW ht) L hn hLs
    rw [tickinglaw03_ThreadAll.l0, shl_at t.size h9, if_neg (by omega)]
    unfold Given.thread_Count.f
    rw [if_pos ht, Option.bind_some, if_pos (by omega), if_pos (by rw [List.length_map]; omega)]
    refine all_l3 t ht L (fun u hu => (hLs u).1 hu) hn hc (by omega) L.length 0 k _ (by omega) (by omega) (by simp) (fun r hr _ => ?_)
    rw [List.length_map, Int.toNat_natCast, List.getElem?_replicate, if_pos (by omega)]
  | d + 1, s, k + 1, L, hd, hk, hn, hlen, h => by
    have hp9 := pow9 t.size h9
    have hl4 := lt_of_isW ht
    have hL4 : ∀ u ∈ L, Lt 4 u := fun u hu => by
      obtain ⟨s', _, rfl⟩ := (h u).1 hu
      exact hl4.sub (pk_sub _ _)
    rw [tickinglaw03_ThreadAll.l0, shl_at t.size h9, if_pos (by omega)]
    have e0 : (0 : Int) = ((0 : Nat) : Int) := rfl
    have es : (⟨#[]⟩ : ByteArray) = str [] := rfl
    rw [e0, es]
    refine all_l1 t h9 _ s _ (600 + 600 * d + 1 + 520) t.size 0 k [] (by omega) (by omega) (by simp) (fun k hk => ?_)
    rw [List.nil_append, List.drop_zero, Nat.pow_zero, Nat.div_one, e0]
    refine all_l2 t L hL4 (by omega) s (by omega) _ (hl4.sub (pk_sub _ _)) _ (600 + 600 * d + 1) L.length 0 k false (by omega) (by omega) (fun k hk => ?_)
    rw [List.drop_zero]
    by_cases hm : pk (bl t) s ∈ L
    · rw [if_pos (.inr hm)]
      refine all_l0 t ht h9 d (s + 1) k L (by omega) hk hn (by omega) (fun u => ?_)
      rw [h u]
      constructor
      · rintro ⟨s', h1, h2⟩; exact ⟨s', by omega, h2⟩
      · rintro ⟨s', h1, h2⟩
        by_cases e : s' = s
        · subst e
          rw [h2] at hm
          exact (h u).1 hm
        · exact ⟨s', by omega, h2⟩
    · rw [if_neg (by simp [hm])]
      refine all_l0 t ht h9 d (s + 1) k (L ++ [pk (bl t) s]) (by omega) hk ?_ (by simp; omega) (fun u => ?_)
      · rw [List.nodup_append]
        refine ⟨hn, by simp, fun a ha b hb => ?_⟩
        rw [List.mem_singleton.1 hb]
        exact fun e => hm (e ▸ ha)
      · rw [List.mem_append, h u, List.mem_singleton]
        constructor
        · rintro (⟨s', h1, h2⟩ | rfl)
          · exact ⟨s', by omega, h2⟩
          · exact ⟨s, by omega, rfl⟩
        · rintro ⟨s', h1, h2⟩
          by_cases e : s' = s
          · subst e; exact .inr h2.symm
          · exact .inl ⟨s', by omega, h2⟩

theorem ThreadAll : tickinglaw03_ThreadAll.Pure := by
  intro a0 _
  unfold tickinglaw03_ThreadAll.f
  have ht := tame_f a0 9 4 (by omega) (by omega)
  have hW := isW_tml a0 9 4 (by omega) (by omega)
  have h9 : (str (tml a0 9 4)).size ≤ 9 := by rw [str_size, tml_len]; omega
  have e9 : ((9 : Nat) : Int) = 9 := rfl
  have e4 : ((4 : Nat) : Int) = 4 := rfl
  rw [e9, e4] at ht
  rw [ht]
  refine ⟨600 + 600 * 2 ^ (str (tml a0 9 4)).size + 1, ?_⟩
  rw [Option.bind_some]
  exact all_l0 _ hW h9 (2 ^ (str (tml a0 9 4)).size) 0 _ [] (by omega) (Nat.le_refl _) List.nodup_nil (Nat.le_refl _) (fun u => by simp)

end Go.Proofs.Ytfjbodaakmapdaa.Pure
