/-
  ThreadOwn: the law's plain side: results do not hang together.
-/
import Derived.Test.YtfjbodaakmapdaaPThreadOwnx4
import Derived.Test.YtfjbodaakmapdaaTc
import Derived.Test.YtfjbodaakmapdaaMinP
import Derived.Sort.Walk0
namespace Go.Proofs.Ytfjbodaakmapdaa.Pure
open Go.RowKit Go.Proofs.Ytfjbodaakmapdaa Go.Proofs.Ytfjbodaakmapdaa.Th Go.Proofs.Ytfjbodaakmapdaa.PThreadOwn Go.Proofs.YtfjbodaakmapdaaW.PrintWords Go.Proofs.YtfjbodaakmapdaaW.PrintLast Go.Proofs.YtfjbodaakmapdaaW.PrintMore
theorem awake_true : tickinglaw03_awake.f 10 = some true := by kernel_rfl
theorem awake_k (k : Nat) (h : 10 ≤ k) : tickinglaw03_awake.f k = some true := by
  obtain ⟨d, rfl⟩ : ∃ d, k = 10 + d := ⟨k - 10, by omega⟩
  clear h
  induction d with
  | zero => exact awake_true
  | succ d ih => exact tickinglaw03_awake.mono (10 + d) true ih
theorem w64 (x : Int) (h1 : -9223372036854775808 ≤ x) (h2 : x ≤ 9223372036854775807) : wrap64 x = x := by
  unfold wrap64; omega
theorem bt_nat (s : ByteArray) (i : Nat) (h : i < s.size) : bt s i = ((bl s)[i]'(by rw [bl_len]; exact h) : Nat) := by
  rw [bl_get s i h]
  exact (bt_at s i (by simpa using h)).symm

theorem rd_at {L : List Int} {r : Nat} {x : Int} (h : L[r]? = some x) : rd L (r : Int) = x := by
  unfold rd
  rw [List.getD_eq_getElem?_getD, Int.toNat_natCast, h]; rfl


theorem next_l0 (s : ByteArray) (c : Nat) (hs : s.size ≤ 61) : ∀ (k i : Nat), s.size + 1 ≤ k + i → i ≤ s.size → tickingref03_Next.l0 k s ((97 + c : Nat) : Int) i = some (if nx (bl s) c i < s.size then ((nx (bl s) c i + 1 : Nat) : Int) else -1)
  | 0, i, h, hi => by omega
  | k + 1, i, h, hi => by
    rw [tickingref03_Next.l0]
    by_cases hlt : i < s.size
    · rw [if_pos (by omega), if_pos (by omega), bt_nat s i hlt, nx_step (bl s) c i (by rw [bl_len]; exact hlt)]
      have hw : wrap64 ((i : Int) + 1) = ((i + 1 : Nat) : Int) := by rw [w64 _ (by omega) (by omega)]; omega
      by_cases he : (bl s)[i]'(by rw [bl_len]; exact hlt) = 97 + c
      · rw [if_pos (by omega), if_pos he, if_pos hlt, hw]
      · rw [if_neg (by omega), if_neg he, hw]
        exact next_l0 s c hs k (i + 1) (by omega) (by omega)
    · obtain rfl : i = s.size := by omega
      have := nx_end (bl s) c
      rw [bl_len] at this
      rw [if_neg (by omega), this, if_neg (by omega)]
theorem next_f (s : ByteArray) (c : Nat) (hs : s.size ≤ 61) (k i : Nat) (h : 62 ≤ k) (hi : i ≤ s.size) : tickingref03_Next.f k s i ((97 + c : Nat) : Int) = some (if nx (bl s) c i < s.size then ((nx (bl s) c i + 1 : Nat) : Int) else -1) :=
  next_l0 s c hs k i (by omega) hi


theorem within_l0 (u w : ByteArray) (hu : isW u = true) (hw : w.size ≤ 60) : ∀ (k j i : Nat) (acc : List Nat), 200 ≤ k + j → j ≤ u.size → i ≤ w.size → acc.length ≤ j →
    tickingref03_Within.l0 k u w (zs acc) (i : Int) (j : Int) = some (match wn ((bl u).drop j) (bl w) i with | some l => (zs (acc ++ l), true) | none => ([], false))
  | 0, j, i, acc, h, hj, _, _ => by
    have := ((isW_iff u).1 hu).1
    omega
  | k + 1, j, i, acc, h, hj, hi, hacc => by
    obtain ⟨hu60, hl⟩ := (isW_iff u).1 hu
    rw [tickingref03_Within.l0]
    by_cases hlt : j < u.size
    · obtain ⟨h97, h100⟩ := hl j hlt
      have hg := bl_get u j hlt
      rw [if_pos (by omega), if_pos (by omega), bt_nat u j hlt, drop_at (by rw [bl_len]; exact hlt)]
      obtain ⟨c, hc⟩ : ∃ c, (bl u)[j]'(by rw [bl_len]; exact hlt) = 97 + c := ⟨u[j].toNat - 97, by omega⟩
      rw [hc, next_f w c (by omega) k i (by omega) hi, Option.bind_some, wn, show 97 + c - 97 = c by omega, bl_len]
      by_cases hn : nx (bl w) c i < w.size
      · rw [if_pos hn, if_pos hn, if_neg (by omega), if_pos (by rw [zs_len]; omega), w64 _ (by omega) (by omega), w64 _ (by omega) (by omega)]
        have e1 : zs acc ++ [((nx (bl w) c i + 1 : Nat) : Int) - 1] = zs (acc ++ [nx (bl w) c i]) := by rw [zs_snoc]; congr 2; omega
        have e2 : ((j : Int) + 1) = ((j + 1 : Nat) : Int) := by omega
        rw [e1, e2, within_l0 u w hu hw k (j + 1) (nx (bl w) c i + 1) (acc ++ [nx (bl w) c i]) (by omega) (by omega) (by omega) (by simp; omega)]
        cases wn ((bl u).drop (j + 1)) (bl w) (nx (bl w) c i + 1) <;> simp
      · rw [if_neg hn, if_neg hn, if_pos (by omega)]
    · obtain rfl : j = u.size := by omega
      rw [if_neg (by omega), List.drop_eq_nil_of_le (by rw [bl_len]; omega), wn]
      simp
theorem within_f (u w : ByteArray) (hu : isW u = true) (hw : w.size ≤ 60) (k : Nat) (h : 200 ≤ k) :
    tickingref03_Within.f k u w = some (match wn (bl u) (bl w) 0 with | some l => (zs l, true) | none => ([], false)) := by
  have := within_l0 u w hu hw k 0 0 [] (by omega) (by omega) (by omega) (Nat.le_refl _)
  rw [List.drop_zero] at this
  exact this


theorem ints_l0 (a : List Int) (n : Nat) (ha : a.length ≤ n) (hn : n ≤ 100000) : ∀ (d i k : Nat), i + d = a.length → d + 1 ≤ k → tickinglaw03_ints.l0 k a a (i : Int) = some true
  | d, i, 0, hd, hk => by omega
  | 0, i, k + 1, hd, hk => by rw [tickinglaw03_ints.l0, if_neg (by omega)]
  | d + 1, i, k + 1, hd, hk => by
    rw [tickinglaw03_ints.l0, if_pos (by omega), if_pos (by omega), if_pos (by omega), if_pos rfl, w64 _ (by omega) (by omega), show (i : Int) + 1 = ((i + 1 : Nat) : Int) by omega]
    exact ints_l0 a n ha hn d (i + 1) k (by omega) (by omega)
theorem ints_same (a : List Int) (n : Nat) (ha : a.length ≤ n) (k : Nat) (hk : n + 1 ≤ k) (hn : n ≤ 100000 := by omega) : tickinglaw03_ints.f k a a = some true := by
  unfold tickinglaw03_ints.f
  rw [if_pos rfl]
  exact ints_l0 a n ha hn a.length 0 k (by omega) (by omega)

theorem within_is (u : List Nat) (w : ByteArray) (hu : Lt 4 u) (hl : u.length ≤ 60) (hw : w.size ≤ 60) (k : Nat) (h : 200 ≤ k) : ∃ ps, tickingref03_Within.f k (str u) w = some (ps, decide (u.Sublist (bl w))) := by
  rw [within_f _ w (isW_str hu hl) hw k h]
  have h1 := wn_sub (bl (str u)) (bl w) 0 (by rw [bl_strL hu (by omega)]; exact hu) (Nat.zero_le _)
  rw [bl_strL hu (by omega), List.drop_zero] at h1
  rw [bl_strL hu (by omega)]
  cases hw : wn u (bl w) 0 with
  | some ps => rw [hw] at h1; exact ⟨zs ps, by rw [decide_eq_true (h1.1 rfl)]⟩
  | none =>
    rw [hw] at h1
    exact ⟨[], by rw [decide_eq_false (fun h => by have := h1.2 h; cases this)]⟩


theorem rdOf_at (L : List ByteArray) (i : Nat) (h : i < L.length) : rdOf ByteArray.empty L (i : Int) = L[i] := by
  unfold rdOf
  rw [List.getD_eq_getElem?_getD, Int.toNat_natCast, List.getElem?_eq_getElem h]; rfl
theorem texts_l0 (a : List ByteArray) (ha : a.length ≤ 100000) : ∀ (d i k : Nat), i + d = a.length → d + 1 ≤ k → tickinglaw03_texts.l0 k a a (i : Int) = some true
  | d, i, 0, hd, hk => by omega
  | 0, i, k + 1, hd, hk => by rw [tickinglaw03_texts.l0, if_neg (by omega)]
  | d + 1, i, k + 1, hd, hk => by
    rw [tickinglaw03_texts.l0, if_pos (by omega), if_pos (by omega), if_pos (by omega), if_pos rfl, w64 _ (by omega) (by omega), show (i : Int) + 1 = ((i + 1 : Nat) : Int) by omega]
    exact texts_l0 a ha d (i + 1) k (by omega) (by omega)
theorem texts_same (a : List ByteArray) (ha : a.length ≤ 100) (k : Nat) (hk : 101 ≤ k) : tickinglaw03_texts.f k a a = some true := by
  unfold tickinglaw03_texts.f
  rw [if_pos rfl]
  exact texts_l0 a (by omega) a.length 0 k (by omega) (by omega)

theorem short_same (a : ByteArray) (h : a.size ≤ 61) : tickinglaw03_short.f a = some a := by
  unfold tickinglaw03_short.f
  have hm : mn (a.size : Int) 61 = a.size := by unfold mn; split <;> omega
  rw [hm, if_pos (by omega), if_pos (by omega), Int.toNat_natCast, show a.extract 0 a.size = a from ByteArray.extract_zero_size]
theorem family_l0 (l : List ByteArray) (hl : l.length ≤ 6) (hs : ∀ x ∈ l, x.size ≤ 61) : ∀ (d i k : Nat), i + d = l.length → d + 1 ≤ k → tickinglaw03_family.l0 k l (l.take i) (i : Int) = some l
  | d, i, 0, hd, hk => by omega
  | 0, i, k + 1, hd, hk => by rw [tickinglaw03_family.l0, if_neg (by omega), List.take_of_length_le (by omega)]
  | d + 1, i, k + 1, hd, hk => by
    have hlt : i < l.length := by omega
    rw [tickinglaw03_family.l0, if_pos (by omega), if_pos (by omega), if_pos (by omega), rdOf_at l i hlt, short_same _ (hs _ (List.getElem_mem hlt)), Option.bind_some, if_pos (by rw [List.length_take]; omega), w64 _ (by omega) (by omega), show (i : Int) + 1 = ((i + 1 : Nat) : Int) by omega]
    have e : l.take i ++ [l[i]] = l.take (i + 1) := by rw [List.take_succ_eq_append_getElem hlt]
    rw [e]
    exact family_l0 l hl hs d (i + 1) k (by omega) (by omega)
theorem family_same (l : List ByteArray) (hl : l.length ≤ 6) (hs : ∀ x ∈ l, x.size ≤ 61) (k : Nat) (hk : 10 ≤ k) : tickinglaw03_family.f k l = some l := by
  unfold tickinglaw03_family.f
  have := family_l0 l hl hs l.length 0 k (by omega) (by omega)
  rw [List.take_zero] at this
  exact this

theorem wn_len : ∀ (a b : List Nat) (i : Nat) (ps : List Nat), wn a b i = some ps → ps.length = a.length := by
  intro a
  induction a with
  | nil => intro b i ps h; rw [wn] at h; cases h; rfl
  | cons x a ih =>
    intro b i ps h
    rw [wn] at h
    split at h
    · obtain ⟨q, hq, rfl⟩ := Option.map_eq_some_iff.1 h
      simp [ih _ _ _ hq]
    · cases h


theorem nodup_sub : ∀ {a b : List ByteArray}, a.Nodup → (∀ x ∈ a, x ∈ b) → a.length ≤ b.length
  | [], _, _, _ => Nat.zero_le _
  | x :: a, b, hn, hs => by
    rw [List.nodup_cons] at hn
    obtain ⟨s, t, rfl⟩ := List.append_of_mem (hs x List.mem_cons_self)
    have h := nodup_sub (a := a) (b := s ++ t) hn.2 (fun y hy => by
      have h1 := hs y (List.mem_cons_of_mem _ hy)
      rw [List.mem_append, List.mem_cons] at h1
      rw [List.mem_append]
      rcases h1 with h1 | rfl | h1
      · exact .inl h1
      · exact absurd hy hn.1
      · exact .inr h1)
    simp only [List.length_cons, List.length_append] at h ⊢; omega
theorem mnl_len (l : List ByteArray) (hw : ∀ x ∈ l, isW x = true) : (mnl l).length ≤ l.length := by
  have hs := mnl_spec l hw
  exact nodup_sub (hs.1.imp (fun {a b} h e => by subst e; rw [lt_irr] at h; cases h)) (fun x hx => ((hs.2 x).1 hx).1)
theorem less_f (a b : ByteArray) : tickingref03_Less.f a b = some (ltOf blC a b) := by
  unfold tickingref03_Less.f
  have h := blC_lt a b
  by_cases e : (a.size : Int) = b.size
  · rw [if_pos e]
    congr 1
    rw [Bool.eq_iff_iff, h, bytesLess_eq, decide_eq_true_iff]
    constructor
    · intro hl; exact .inr ⟨by omega, hl⟩
    · rintro (hl | ⟨_, hl⟩)
      · omega
      · exact hl
  · rw [if_neg e]
    congr 1
    rw [Bool.eq_iff_iff, h, decide_eq_true_iff]
    omega
theorem toList_eq_iff (a b : ByteArray) : a.toList = b.toList ↔ a = b := by
  constructor
  · intro h
    apply ByteArray.ext
    apply Array.ext'
    simpa [ByteArray.toList_eq] using h
  · rintro rfl; rfl

/-- Is the word number i kept? -/
def Kp (l : List ByteArray) (i j : Nat) : Prop := ∀ (q : Nat) (hq : q < l.length) (hi : i < l.length), j ≤ q → (bl l[q]).Sublist (bl l[i]) → l[q] = l[i] ∧ ¬ q < i

theorem min_l1 (l : List ByteArray) (hw : ∀ x ∈ l, isW x = true) (hl : l.length ≤ 4) (i : Nat) (hi : i < l.length) (out : List ByteArray) (o : Option (List ByteArray)) (F : Nat) (hF : 200 ≤ F) : ∀ (d j k : Nat) (keep : Bool), j + d = l.length → F + d + 1 ≤ k →
    (keep = true → Kp l i j → ∀ k, F ≤ k → tickingref03_Minimal.l2 k l out (i : Int) 0 = o) → (¬ (keep = true ∧ Kp l i j) → ∀ k, F ≤ k → tickingref03_Minimal.l0 k l out ((i + 1 : Nat) : Int) = o) →
    tickingref03_Minimal.l1 k l out (i : Int) keep (j : Int) = o
  | d, j, 0, keep, hd, hk, h1, h2 => by omega
  | 0, j, k + 1, keep, hd, hk, h1, h2 => by
    have hkp : Kp l i j := fun q hq _ hjq => by omega
    rw [tickingref03_Minimal.l1, if_neg (by omega)]
    cases keep with
    | true => rw [if_pos rfl]; exact h1 rfl hkp k (by omega)
    | false =>
      rw [if_neg (by simp), w64 _ (by omega) (by omega), show (i : Int) + 1 = ((i + 1 : Nat) : Int) by omega]
      exact h2 (by simp) k (by omega)
  | d + 1, j, k + 1, keep, hd, hk, h1, h2 => by
    have hlt : j < l.length := by omega
    have e : ((j : Int) + 1) = ((j + 1 : Nat) : Int) := by omega
    have hwj := hw _ (List.getElem_mem hlt)
    have hwi := hw _ (List.getElem_mem hi)
    obtain ⟨ps, hps⟩ := within_is (bl l[j]) l[i] (lt_of_isW hwj) (by rw [bl_len]; exact ((isW_iff _).1 hwj).1) ((isW_iff _).1 hwi).1 k (by omega)
    rw [str_bl] at hps
    have hsplit : Kp l i j ↔ ((bl l[j]).Sublist (bl l[i]) → l[j] = l[i] ∧ ¬ j < i) ∧ Kp l i (j + 1) := by
      constructor
      · intro h
        exact ⟨fun hs => h j hlt hi (Nat.le_refl _) hs, fun q hq hi' hjq hs => h q hq hi' (by omega) hs⟩
      · rintro ⟨ha, hb⟩ q hq hi' hjq hs
        by_cases eq : q = j
        · subst eq; exact ha hs
        · exact hb q hq hi' (by omega) hs
    rw [tickingref03_Minimal.l1, if_pos (by omega), if_pos (by omega), if_pos (by omega), if_pos (by omega), rdOf_at l j hlt, rdOf_at l i hi, hps, Option.bind_some, w64 _ (by omega) (by omega), e]
    by_cases hs : (bl l[j]).Sublist (bl l[i])
    · rw [if_pos (by simpa using hs)]
      by_cases heq : l[j] = l[i]
      · rw [if_pos (by rw [heq])]
        by_cases hji : j < i
        · rw [if_pos (by omega)]
          refine min_l1 l hw hl i hi out o F hF d (j + 1) k false (by omega) (by omega) (fun h => by simp at h) (fun _ => h2 (fun h => ?_))
          exact ((hsplit.1 h.2).1 hs).2 hji
        · rw [if_neg (by omega)]
          refine min_l1 l hw hl i hi out o F hF d (j + 1) k keep (by omega) (by omega) (fun h hk => h1 h (hsplit.2 ⟨fun _ => ⟨heq, hji⟩, hk⟩)) (fun hn => h2 (fun h => hn ⟨h.1, (hsplit.1 h.2).2⟩))
      · rw [if_neg (fun h => heq ((toList_eq_iff _ _).1 h))]
        refine min_l1 l hw hl i hi out o F hF d (j + 1) k false (by omega) (by omega) (fun h => by simp at h) (fun _ => h2 (fun h => ?_))
        exact heq ((hsplit.1 h.2).1 hs).1
    · rw [if_neg (by simpa using hs)]
      refine min_l1 l hw hl i hi out o F hF d (j + 1) k keep (by omega) (by omega) (fun h hk => h1 h (hsplit.2 ⟨fun h => absurd h hs, hk⟩)) (fun hn => h2 (fun h => hn ⟨h.1, (hsplit.1 h.2).2⟩))

theorem min_l2 (l : List ByteArray) (hl : l.length ≤ 4) (i : Nat) (hi : i < l.length) (out : List ByteArray) (ho : out.length ≤ 4) (o : Option (List ByteArray)) (F : Nat)
    (h0 : ∀ p k, p ≤ out.length → F ≤ k → (∀ y ∈ out.take p, ltOf blC y l[i] = true) → (∀ y, out[p]? = some y → ltOf blC y l[i] = false) → tickingref03_Minimal.l0 k l (out.take p ++ [l[i]] ++ out.drop p) ((i + 1 : Nat) : Int) = o) :
    ∀ (d p k : Nat), p + d = out.length → F + d + 1 ≤ k → (∀ y ∈ out.take p, ltOf blC y l[i] = true) → tickingref03_Minimal.l2 k l out (i : Int) (p : Int) = o
  | d, p, 0, hd, hk, hp => by omega
  | 0, p, k + 1, hd, hk, hp => by
    have e : ((i : Int) + 1) = ((i + 1 : Nat) : Int) := by omega
    rw [tickingref03_Minimal.l2, if_neg (by omega), if_pos (by omega), if_pos (by omega), Option.bind_some, Int.toNat_natCast, if_pos (by rw [List.length_nil, List.length_take]; omega), Option.bind_some, if_pos (by omega), if_pos (by omega), List.nil_append, if_pos (by rw [List.length_take]; omega), Option.bind_some, Option.bind_some, rdOf_at l i hi, if_pos (by simp only [List.length_append, List.length_take, List.length_drop, List.length_cons, List.length_nil]; omega), w64 _ (by omega) (by omega), e]
    exact h0 p k (by omega) (by omega) hp (fun y hy => by rw [List.getElem?_eq_none (by omega)] at hy; cases hy)
  | d + 1, p, k + 1, hd, hk, hp => by
    have hlt : p < out.length := by omega
    have e : ((i : Int) + 1) = ((i + 1 : Nat) : Int) := by omega
    have e2 : ((p : Int) + 1) = ((p + 1 : Nat) : Int) := by omega
    rw [tickingref03_Minimal.l2, if_pos (by omega), if_pos (by omega), if_pos (by omega), if_pos (by omega), rdOf_at out p hlt, rdOf_at l i hi, less_f, Option.bind_some]
    cases hle : ltOf blC out[p] l[i] with
    | true =>
      rw [if_pos rfl, w64 _ (by omega) (by omega), e2]
      refine min_l2 l hl i hi out ho o F h0 d (p + 1) k (by omega) (by omega) (fun y hy => ?_)
      rw [List.take_succ_eq_append_getElem hlt] at hy
      rcases List.mem_append.1 hy with hy | hy
      · exact hp y hy
      · rw [List.mem_singleton.1 hy]; exact hle
    | false =>
      rw [if_neg (by simp), if_pos (by omega), Option.bind_some, Int.toNat_natCast, if_pos (by rw [List.length_nil, List.length_take]; omega), Option.bind_some, List.nil_append, if_pos (by rw [List.length_take]; omega), Option.bind_some, Option.bind_some, if_pos (by simp only [List.length_append, List.length_take, List.length_drop, List.length_cons, List.length_nil]; omega), w64 _ (by omega) (by omega), e]
      exact h0 p k (by omega) (by omega) hp (fun y hy => by
        rw [List.getElem?_eq_getElem hlt] at hy
        obtain rfl := Option.some.inj hy
        exact hle)

theorem min_l0 (l : List ByteArray) (hw : ∀ x ∈ l, isW x = true) (hl : l.length ≤ 4) : ∀ (d i k : Nat) (out : List ByteArray), i + d = l.length → 200 + 20 * d + 1 ≤ k → SSo out → out.length ≤ i → (∀ x, x ∈ out ↔ x ∈ l.take i ∧ Mi l x) →
    tickingref03_Minimal.l0 k l out (i : Int) = some (mnl l)
  | d, i, 0, out, hd, hk, hso, hol, hm => by omega
  | 0, i, k + 1, out, hd, hk, hso, hol, hm => by
    have hs := mnl_spec l hw
    rw [tickingref03_Minimal.l0, if_neg (by omega)]
    congr 1
    refine sso_ext hso hs.1 (fun x => ?_)
    rw [hm x, hs.2 x, List.take_of_length_le (by omega)]
  | d + 1, i, k + 1, out, hd, hk, hso, hol, hm => by
    have hi : i < l.length := by omega
    have hmi : Kp l i 0 ↔ Mi l l[i] ∧ l[i] ∉ l.take i := by
      constructor
      · intro h
        refine ⟨fun t ht hs => ?_, fun hm => ?_⟩
        · obtain ⟨q, hq, rfl⟩ := List.getElem_of_mem ht
          exact (h q hq hi (Nat.zero_le _) hs).1
        · obtain ⟨q, hq, e⟩ := List.mem_take_iff_getElem.1 hm
          have hql : q < l.length := by omega
          have := h q hql hi (Nat.zero_le _) (by rw [e]; exact List.Sublist.refl _)
          omega
      · rintro ⟨h1, h2⟩ q hq _ _ hs
        have e := h1 l[q] (List.getElem_mem hq) hs
        exact ⟨e, fun hqi => h2 (by rw [← e]; exact List.mem_take_iff_getElem.2 ⟨q, by omega, rfl⟩)⟩
    have htake : ∀ x, x ∈ l.take (i + 1) ↔ x ∈ l.take i ∨ x = l[i] := fun x => by
      rw [List.take_succ_eq_append_getElem hi, List.mem_append, List.mem_singleton]
    rw [tickingref03_Minimal.l0, if_pos (by omega)]
    have e0 : (0 : Int) = ((0 : Nat) : Int) := rfl
    rw [e0]
    refine min_l1 l hw hl i hi out _ (200 + 20 * d + 1 + 6) (by omega) l.length 0 k true (by omega) (by omega) (fun _ hkp k hk => ?_) (fun hn k hk => ?_)
    · obtain ⟨h1, h2⟩ := hmi.1 hkp
      have hx : l[i] ∉ out := fun h => h2 ((hm _).1 h).1
      rw [e0]
      refine min_l2 l hl i hi out (by omega) _ (200 + 20 * d + 1) (fun p k hp hk ha hb => ?_) out.length 0 k (by omega) (by omega) (by simp)
      refine min_l0 l hw hl d (i + 1) k _ (by omega) hk (sso_insert hso p hp ha hb hx) (by simp only [List.length_append, List.length_take, List.length_drop, List.length_cons, List.length_nil]; omega) (fun x => ?_)
      have hxo : x ∈ out ↔ x ∈ out.take p ∨ x ∈ out.drop p := by
        conv => lhs; rw [← List.take_append_drop p out]
        exact List.mem_append
      rw [List.mem_append, List.mem_append, List.mem_singleton, htake]
      constructor
      · rintro ((h | rfl) | h)
        · have := (hm x).1 (hxo.2 (.inl h)); exact ⟨.inl this.1, this.2⟩
        · exact ⟨.inr rfl, h1⟩
        · have := (hm x).1 (hxo.2 (.inr h)); exact ⟨.inl this.1, this.2⟩
      · rintro ⟨h | rfl, h3⟩
        · rcases hxo.1 ((hm x).2 ⟨h, h3⟩) with h | h
          · exact .inl (.inl h)
          · exact .inr h
        · exact .inl (.inr rfl)
    · refine min_l0 l hw hl d (i + 1) k out (by omega) (by omega) hso (by omega) (fun x => ?_)
      rw [hm x, htake]
      constructor
      · rintro ⟨h1, h2⟩; exact ⟨.inl h1, h2⟩
      · rintro ⟨h | rfl, h3⟩
        · exact ⟨h, h3⟩
        · by_cases hin : l[i] ∈ l.take i
          · exact ⟨hin, h3⟩
          · exact absurd ⟨rfl, hmi.2 ⟨h3, hin⟩⟩ hn
theorem refmin_f (l : List ByteArray) (hw : ∀ x ∈ l, isW x = true) (hl : l.length ≤ 4) (k : Nat) (hk : 300 ≤ k) : tickingref03_Minimal.f k l = some (mnl l) := by
  unfold tickingref03_Minimal.f
  exact min_l0 l hw hl l.length 0 k [] (by omega) (by omega) List.Pairwise.nil (Nat.le_refl _) (fun x => by simp)

theorem rdOf_any (L : List ByteArray) (i : Nat) (h : i < L.length) : rdOf ByteArray.empty L (i : Int) = L[i] := rdOf_at L i h

theorem own_end (w : ByteArray) (l : List ByteArray) (hW : isW w = true) (h3 : overB (bl w) 3 = true) (hf : isFam l = true) (hw : ∀ x ∈ l, isW x = true) (hl : l.length ≤ 4) (A : List Int) (hA : A = zs (ar (bl w) 3 (w.size + 1) 0)) (hAl : A.length ≤ 100) (m : List ByteArray) (k : Nat) (hk : 400 ≤ k) :
    ∀ (d i : Nat) (q : Nat), i + d = m.length → k + d + 1 ≤ q → m.length ≤ 4 → tickinglaw03_ThreadOwn.l3 q w l l 0 0 m 0 (i : Int) = some true := by
  have hok : archOk w 3 = true := by
    unfold archOk
    rw [hW, show (3 : Int).toNat = 3 from rfl, h3]; rfl
  intro d
  induction d generalizing m with
  | zero =>
    intro i q hd hq hm
    obtain ⟨q, rfl⟩ : ∃ p, q = p + 1 := ⟨q - 1, by omega⟩
    have h1 : Given.thread_Arches.f w 3 = some (A, 0) := by
      unfold Given.thread_Arches.f; rw [if_pos hok, hA]; rfl
    have h2 : Given.thread_Minimal.f l = some (mnl l, 0) := by
      unfold Given.thread_Minimal.f; rw [if_pos hf]; rfl
    have h4 : Given.tickingref03_Arches.f w 3 = some A := by
      unfold Given.tickingref03_Arches.f; rw [if_pos hok, hA]; rfl
    have hml : (mnl l).length ≤ 100 := by
      have := mnl_len l hw
      omega
    rw [tickinglaw03_ThreadOwn.l3, if_neg (by omega), h1, Option.bind_some, h2, Option.bind_some, if_pos rfl, if_pos rfl, if_pos rfl, if_pos rfl, if_pos rfl, texts_same l (by omega) q (by omega), Option.bind_some, if_pos rfl, h4, Option.bind_some, ints_same A 100 hAl q (by omega), Option.bind_some, if_pos rfl, refmin_f l hw hl q (by omega), Option.bind_some, texts_same (mnl l) hml q (by omega), Option.bind_some, if_pos rfl, awake_k q (by omega), Option.bind_some]
  | succ d ih =>
    intro i q hd hq hm
    obtain ⟨q, rfl⟩ : ∃ p, q = p + 1 := ⟨q - 1, by omega⟩
    rw [tickinglaw03_ThreadOwn.l3, if_pos (by omega), if_pos (by omega), w64 _ (by omega) (by omega), show (i : Int) + 1 = ((i + 1 : Nat) : Int) by omega]
    exact ih (m.set _ _) (i + 1) q (by rw [List.length_set]; omega) (by omega) (by rw [List.length_set]; exact hm)

theorem own_l2 (w : ByteArray) (l : List ByteArray) (m : List ByteArray) (K : Nat) (h : ∀ q, K ≤ q → tickinglaw03_ThreadOwn.l3 q w l l 0 0 m 0 0 = some true) : ∀ (d i q : Nat) (B : List Int), i + d = B.length → K + d + 1 ≤ q → B.length ≤ 100 → tickinglaw03_ThreadOwn.l2 q w l l 0 B 0 m 0 (i : Int) = some true
  | d, i, 0, B, hd, hq, hB => by omega
  | 0, i, q + 1, B, hd, hq, hB => by
    rw [tickinglaw03_ThreadOwn.l2, if_neg (by omega)]
    exact h q (by omega)
  | d + 1, i, q + 1, B, hd, hq, hB => by
    rw [tickinglaw03_ThreadOwn.l2, if_pos (by omega), if_pos (by omega), w64 _ (by omega) (by omega), show (i : Int) + 1 = ((i + 1 : Nat) : Int) by omega]
    exact own_l2 w l m K h d (i + 1) q (B.set _ _) (by rw [List.length_set]; omega) (by omega) (by rw [List.length_set]; exact hB)
theorem own_l1 (w : ByteArray) (l : List ByteArray) (m : List ByteArray) (B : List Int) (K : Nat) (h : ∀ q, K ≤ q → tickinglaw03_ThreadOwn.l2 q w l l 0 B 0 m 0 0 = some true) : ∀ (d i q : Nat) (A : List Int), i + d = A.length → K + d + 1 ≤ q → A.length ≤ 100 → tickinglaw03_ThreadOwn.l1 q w l l A 0 B 0 m 0 (i : Int) = some true
  | d, i, 0, A, hd, hq, hA => by omega
  | 0, i, q + 1, A, hd, hq, hA => by
    rw [tickinglaw03_ThreadOwn.l1, if_neg (by omega)]
    exact h q (by omega)
  | d + 1, i, q + 1, A, hd, hq, hA => by
    rw [tickinglaw03_ThreadOwn.l1, if_pos (by omega), if_pos (by omega), w64 _ (by omega) (by omega), show (i : Int) + 1 = ((i + 1 : Nat) : Int) by omega]
    exact own_l1 w l m B K h d (i + 1) q (A.set _ _) (by rw [List.length_set]; omega) (by omega) (by rw [List.length_set]; exact hA)

/-- The words that the statement makes. -/
def ownL (ls : List ByteArray) : List ByteArray := (ls.take 4).map fun s => str (tml s 6 4)
theorem ownL_fam (ls : List ByteArray) : (ownL ls).length ≤ 4 ∧ (∀ x ∈ ownL ls, isW x = true ∧ x.size ≤ 6) := by
  refine ⟨by unfold ownL; rw [List.length_map, List.length_take]; omega, fun x hx => ?_⟩
  obtain ⟨s, _, rfl⟩ := List.mem_map.1 hx
  exact ⟨isW_tml s 6 4 (by omega) (by omega), by rw [str_size, tml_len]; omega⟩
theorem fam_of (l : List ByteArray) (h4 : l.length ≤ 4) (h : ∀ x ∈ l, isW x = true ∧ x.size ≤ 6) : isFam l = true := by
  unfold isFam
  rw [decide_eq_true h4, Bool.true_and, Bool.not_eq_true', List.any_eq_false]
  intro x hx
  obtain ⟨h1, h2⟩ := h x hx
  unfold badW
  rw [h1, decide_eq_false (by omega)]; simp

theorem own_l0 (w : ByteArray) (ls : List ByteArray) (o : Option Bool) (K : Nat) (h : ∀ q, K ≤ q → tickinglaw03_ThreadOwn.j1 q w (ownL ls) = o) : ∀ (d i q : Nat), i + d = min 4 ls.length → K + d + 1 ≤ q → tickinglaw03_ThreadOwn.l0 q w ls (ownL (ls.take i)) (i : Int) = o
  | d, i, 0, hd, hq => by omega
  | 0, i, q + 1, hd, hq => by
    have e : ownL (ls.take i) = ownL ls := by
      unfold ownL
      rw [List.take_take]
      by_cases h4 : 4 ≤ ls.length
      · rw [show min 4 i = 4 by omega]
      · rw [List.take_of_length_le (i := 4) (by omega), List.take_of_length_le (by omega)]
    rw [tickinglaw03_ThreadOwn.l0, e]
    by_cases h1 : (i : Int) < (ls.length : Int)
    · rw [if_pos h1, if_neg (by omega)]; exact h q (by omega)
    · rw [if_neg h1]; exact h q (by omega)
  | d + 1, i, q + 1, hd, hq => by
    have hlt : i < ls.length := by omega
    have ht := tame_f ls[i] 6 4 (by omega) (by omega)
    have e6 : ((6 : Nat) : Int) = 6 := rfl
    have e4 : ((4 : Nat) : Int) = 4 := rfl
    rw [e6, e4] at ht
    rw [tickinglaw03_ThreadOwn.l0, if_pos (by omega), if_pos (by omega), if_pos (by omega), rdOf_at ls i hlt, ht, Option.bind_some, if_pos (by have := (ownL_fam (ls.take i)).1; omega), w64 _ (by omega) (by omega), show (i : Int) + 1 = ((i + 1 : Nat) : Int) by omega]
    have e : ownL (ls.take i) ++ [str (tml ls[i] 6 4)] = ownL (ls.take (i + 1)) := by
      unfold ownL
      rw [List.take_take, List.take_take, show min 4 i = i by omega, show min 4 (i + 1) = i + 1 by omega, List.take_succ_eq_append_getElem hlt, List.map_append]; rfl
    rw [e]
    exact own_l0 w ls o K h d (i + 1) q (by omega) (by omega)

theorem own_pure (a0 : ByteArray) (ls : List ByteArray) : ∃ k, tickinglaw03_ThreadOwn.f k a0 ls = some true := by
  suffices h : ∀ K, 2000 ≤ K → tickinglaw03_ThreadOwn.f K a0 ls = some true from ⟨2000, h 2000 (Nat.le_refl _)⟩
  intro K hK
  unfold tickinglaw03_ThreadOwn.f
  have ht := tame_f a0 30 3 (by omega) (by omega)
  have hW := isW_tml a0 30 3 (by omega) (by omega)
  have hl := tml_lt a0 30 3 (by omega)
  have hb := bl_tml a0 30 3 (by omega)
  have h30 : (str (tml a0 30 3)).size ≤ 30 := by rw [str_size, tml_len]; omega
  have e30 : ((30 : Nat) : Int) = 30 := rfl
  have e3 : ((3 : Nat) : Int) = 3 := rfl
  rw [e30, e3] at ht
  rw [ht, Option.bind_some]
  generalize str (tml a0 30 3) = w at hW hb h30
  generalize tml a0 30 3 = b at hl hb
  subst hb
  obtain ⟨f1, f2⟩ := ownL_fam ls
  have hfam := fam_of _ f1 f2
  have hov : overB (bl w) 3 = true := by
    unfold overB
    rw [List.all_eq_true]
    intro x hx
    exact decide_eq_true (hl x hx).2
  have hok : archOk w 3 = true := by
    unfold archOk
    rw [hW, show (3 : Int).toNat = 3 from rfl, hov]; rfl
  have h0 := own_l0 w ls (some true) 1500 (fun q hq => ?_) (min 4 ls.length) 0 K (by omega) (by omega)
  · rw [List.take_zero] at h0
    exact h0
  · obtain ⟨q, rfl⟩ : ∃ p, q = p + 1 := ⟨q - 1, by omega⟩
    have htl := bl_len w
    have hal := ar_len (bl w) 3 (by omega) (w.size + 1) 0 (by omega) (Nat.zero_le _)
    have hls := ls_le (bl w) 3 (by omega) 0 (by omega)
    have hAl : (zs (ar (bl w) 3 (w.size + 1) 0)).length ≤ 100 := by rw [zs_len]; omega
    have h1 : Given.thread_Arches.f w 3 = some (zs (ar (bl w) 3 (w.size + 1) 0), 0) := by
      unfold Given.thread_Arches.f; rw [if_pos hok]; rfl
    have h2 : Given.thread_Minimal.f (ownL ls) = some (mnl (ownL ls), 0) := by
      unfold Given.thread_Minimal.f; rw [if_pos hfam]; rfl
    have hwn := wn_sub (bl w) (bl w) 0 (lt_of_isW hW) (Nat.zero_le _)
    rw [List.drop_zero] at hwn
    obtain ⟨ps, hps⟩ := Option.isSome_iff_exists.1 (hwn.2 (List.Sublist.refl _))
    have hpl := wn_len _ _ _ _ hps
    have h3 : Given.thread_Within.f w w = some (zs ps, 0) := by
      unfold Given.thread_Within.f; rw [if_pos hW, if_pos hW, hps]
    have hw := fun x hx => (f2 x hx).1
    have hml : (mnl (ownL ls)).length ≤ 4 := by
      have := mnl_len (ownL ls) hw
      omega
    rw [tickinglaw03_ThreadOwn.j1, family_same (ownL ls) (by omega) (fun x hx => by have := (f2 x hx).2; omega) q (by omega), Option.bind_some, h1, Option.bind_some, h3, Option.bind_some, h2, Option.bind_some]
    have e0 : (0 : Int) = ((0 : Nat) : Int) := rfl
    have hL3 := own_end w (ownL ls) hW hov hfam hw f1 _ rfl hAl
    have g3 : ∀ q, 405 ≤ q → tickinglaw03_ThreadOwn.l3 q w (ownL ls) (ownL ls) 0 0 (mnl (ownL ls)) 0 0 = some true := fun q hq => by
      exact hL3 (mnl (ownL ls)) 400 (Nat.le_refl _) (mnl (ownL ls)).length 0 q (by omega) (by omega) hml
    have g2 : ∀ q, 600 ≤ q → tickinglaw03_ThreadOwn.l2 q w (ownL ls) (ownL ls) 0 (zs ps) 0 (mnl (ownL ls)) 0 0 = some true := fun q hq =>
      own_l2 w (ownL ls) (mnl (ownL ls)) 405 g3 (zs ps).length 0 q (zs ps) (by omega) (by rw [zs_len]; omega) (by rw [zs_len]; omega)
    exact own_l1 w (ownL ls) (mnl (ownL ls)) (zs ps) 600 g2 _ 0 q (zs (ar (bl w) 3 (w.size + 1) 0)) (Nat.zero_add _) (by omega) hAl

end Go.Proofs.Ytfjbodaakmapdaa.Pure
