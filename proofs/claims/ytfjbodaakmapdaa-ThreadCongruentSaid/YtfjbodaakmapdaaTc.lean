/-
  Plain laws on subsequences, the contract of tame and that of thread.Longest.
-/
import Derived.Test.YtfjbodaakmapdaaTa
/-! ## Sub -/
namespace Go.Proofs.Ytfjbodaakmapdaa.Th

/-- A list of letters: the first k ones. -/
def Lt (k : Nat) (u : List Nat) : Prop := ∀ x ∈ u, 97 ≤ x ∧ x < 97 + k
theorem Lt.tail {k x : Nat} {u : List Nat} (h : Lt k (x :: u)) : Lt k u := fun y hy => h y (List.mem_cons_of_mem _ hy)
theorem Lt.head {k x : Nat} {u : List Nat} (h : Lt k (x :: u)) : 97 ≤ x ∧ x < 97 + k := h x List.mem_cons_self
theorem Lt.sub {k : Nat} {u v : List Nat} (h : Lt k v) (hs : u.Sublist v) : Lt k u := fun x hx => h x (hs.subset hx)
theorem Lt.drop {k : Nat} {u : List Nat} (h : Lt k u) (n : Nat) : Lt k (u.drop n) := h.sub (List.drop_sublist n u)
theorem Lt.append {k : Nat} {u v : List Nat} (h : Lt k u) (g : Lt k v) : Lt k (u ++ v) := fun x hx => (List.mem_append.1 hx).elim (h x) (g x)
theorem Lt.mono {j k : Nat} {u : List Nat} (h : Lt j u) (hj : j ≤ k) : Lt k u := fun x hx => by have := h x hx; omega

theorem fnd_at (c : Nat) : ∀ (l : List Nat) (h : fnd c l < l.length), l[fnd c l] = 97 + c
  | [], h => by simp at h
  | x :: l, h => by
    by_cases e : x = 97 + c
    · simp [fnd, e]
    · have hx : fnd c (x :: l) = fnd c l + 1 := by rw [fnd, if_neg e]
      have hl : fnd c l < l.length := by rw [hx] at h; simpa using h
      have := fnd_at c l hl
      simp only [hx, List.getElem_cons_succ]; exact this
theorem fnd_drop {c : Nat} {l : List Nat} (h : fnd c l < l.length) : l.drop (fnd c l) = (97 + c) :: l.drop (fnd c l + 1) := by
  rw [List.drop_eq_getElem_cons h, fnd_at c l h]

/-- A word is a subsequence exactly if its first letter is there and the rest is one of what follows. -/
theorem sub_cons (c : Nat) (u : List Nat) : ∀ l : List Nat, ((97 + c) :: u).Sublist l ↔ fnd c l < l.length ∧ u.Sublist (l.drop (fnd c l + 1))
  | [] => by simp
  | x :: l => by
    by_cases e : x = 97 + c
    · subst e
      simp [fnd]
    · rw [fnd, if_neg e]
      simp only [List.length_cons, List.drop_succ_cons]
      rw [List.sublist_cons_iff, sub_cons c u l]
      constructor
      · rintro (h | ⟨r, h, _⟩)
        · exact ⟨by omega, h.2⟩
        · exact absurd (List.cons.inj h).1.symm e
      · intro h
        exact .inl ⟨by omega, h.2⟩
theorem nil_sub (l : List Nat) : ([] : List Nat).Sublist l := List.nil_sublist l

theorem nx_lt (l : List Nat) (c i : Nat) (hi : i ≤ l.length) : nx l c i < l.length ↔ fnd c (l.drop i) < (l.drop i).length := by
  rw [List.length_drop]; unfold nx; omega
theorem nx_dropn (l : List Nat) (c i : Nat) : (l.drop i).drop (fnd c (l.drop i) + 1) = l.drop (nx l c i + 1) := by
  rw [List.drop_drop]; rfl
theorem sub_nx (l u : List Nat) (c i : Nat) (hi : i ≤ l.length) : ((97 + c) :: u).Sublist (l.drop i) ↔ nx l c i < l.length ∧ u.Sublist (l.drop (nx l c i + 1)) := by
  rw [sub_cons, nx_lt l c i hi, nx_dropn]

theorem wn_sub : ∀ (u l : List Nat) (i : Nat), Lt 4 u → i ≤ l.length → ((wn u l i).isSome = true ↔ u.Sublist (l.drop i))
  | [], _, _, _, _ => by simp [wn]
  | x :: u, l, i, hu, hi => by
    obtain ⟨c, rfl⟩ : ∃ c, x = 97 + c := ⟨x - 97, by have := hu.head; omega⟩
    rw [sub_nx l u c i hi, wn, show 97 + c - 97 = c by omega]
    by_cases h : nx l c i < l.length
    · rw [if_pos h, Option.isSome_map, wn_sub u l _ hu.tail (by omega)]
      simp [h]
    · rw [if_neg h]; simp [h]

/-! ### Ranks -/
def rk : List Nat → List Nat → Option Nat
  | [], _ => some 0
  | x :: u, l => if fnd (x - 97) l < l.length then (rk u (l.drop (fnd (x - 97) l + 1))).map (pc l (x - 97) + ·) else none

theorem ix_rk : ∀ (u l : List Nat) (i acc : Nat), i ≤ l.length → ix u l i acc = (rk u (l.drop i)).map (acc + ·)
  | [], _, _, _, _ => by simp [ix, rk]
  | x :: u, l, i, acc, hi => by
    rw [ix, rk]
    by_cases h : nx l (x - 97) i < l.length
    · rw [if_pos h, if_pos ((nx_lt l _ i hi).1 h), ix_rk u l _ _ (by omega), nx_dropn, Option.map_map]
      congr 1
      funext n
      simp; omega
    · rw [if_neg h, if_neg (fun h' => h ((nx_lt l _ i hi).2 h'))]; rfl

theorem itm_rk : ∀ (n : Nat) (l : List Nat) (k : Nat), l.length ≤ n → k < cn l → rk (itm l k) l = some k := by
  intro n
  induction n with
  | zero =>
    intro l k hl hk
    have : l = [] := List.length_eq_zero_iff.1 (by omega)
    subst this
    have : k = 0 := by have : cn [] = 1 := rfl; omega
    subst this
    rw [itm_zero, rk]
  | succ n ih =>
    intro l k hl hk
    by_cases h0 : k = 0
    · subst h0; rw [itm_zero, rk]
    · obtain ⟨h1, h2, h3, h4⟩ := sel_spec (by omega) hk
      rw [itm_step (by omega) hk, rk, show 97 + sel l k - 97 = sel l k by omega, if_pos h3, ih _ _ (by rw [List.length_drop]; omega) h4]
      simp; omega

theorem itm_lt : ∀ (n : Nat) (l : List Nat) (k : Nat), l.length ≤ n → k < cn l → Lt 4 (itm l k) := by
  intro n
  induction n with
  | zero =>
    intro l k hl hk
    have : l = [] := List.length_eq_zero_iff.1 (by omega)
    subst this
    have : k = 0 := by have : cn [] = 1 := rfl; omega
    subst this
    rw [itm_zero]; intro x hx; cases hx
  | succ n ih =>
    intro l k hl hk
    by_cases h0 : k = 0
    · subst h0; rw [itm_zero]; intro x hx; cases hx
    · obtain ⟨h1, h2, h3, h4⟩ := sel_spec (by omega) hk
      rw [itm_step (by omega) hk]
      intro x hx
      rcases List.mem_cons.1 hx with rfl | hx
      · have := sel_lt l k; omega
      · exact ih _ _ (by rw [List.length_drop]; omega) h4 x hx

theorem rk_sub : ∀ (u l : List Nat), Lt 4 u → ((rk u l).isSome = true ↔ u.Sublist l)
  | [], _, _ => by simp [rk]
  | x :: u, l, hu => by
    obtain ⟨c, rfl⟩ : ∃ c, x = 97 + c := ⟨x - 97, by have := hu.head; omega⟩
    rw [sub_cons, rk, show 97 + c - 97 = c by omega]
    by_cases h : fnd c l < l.length
    · rw [if_pos h, Option.isSome_map, rk_sub u _ hu.tail]
      simp [h]
    · rw [if_neg h]; simp [h]

theorem pc_mono_le (l : List Nat) (a : Nat) : ∀ b, a ≤ b → pc l a ≤ pc l b
  | 0, h => by obtain rfl : a = 0 := by omega
               exact Nat.le_refl _
  | b + 1, h => by
    by_cases e : a = b + 1
    · subst e; exact Nat.le_refl _
    · exact Nat.le_trans (pc_mono_le l a b (by omega)) (pc_mono l b)
theorem pc_pos (l : List Nat) : ∀ k, 1 ≤ pc l k
  | 0 => Nat.le_refl _
  | k + 1 => Nat.le_trans (pc_pos l k) (pc_mono l k)
/-- The rank of a subsequence, and that the item with this rank is the subsequence. -/
theorem rk_itm : ∀ (u l : List Nat) (r : Nat), Lt 4 u → rk u l = some r → r < cn l ∧ itm l r = u
  | [], l, r, _, h => by
    rw [rk] at h
    obtain rfl : 0 = r := by simpa using h
    exact ⟨cn_pos l, itm_zero l⟩
  | x :: u, l, r, hu, h => by
    obtain ⟨c, rfl⟩ : ∃ c, x = 97 + c := ⟨x - 97, by have := hu.head; omega⟩
    rw [rk, show 97 + c - 97 = c by omega] at h
    by_cases hf : fnd c l < l.length
    · rw [if_pos hf] at h
      obtain ⟨q, hq, rfl⟩ := Option.map_eq_some_iff.1 h
      obtain ⟨h1, h2⟩ := rk_itm u _ q hu.tail hq
      have hc := hu.head
      have htm : tm l c = cn (l.drop (fnd c l + 1)) := by unfold tm; rw [if_pos hf]
      have hlt : pc l c + q < pc l (c + 1) := by rw [pc, htm]; omega
      have hle := pc_le l (c + 1) (by omega)
      have hpos := pc_pos l c
      have hs : sel l (pc l c + q) = c := sel_of (by omega) (by omega) hlt
      refine ⟨by omega, ?_⟩
      rw [itm_step (by omega) (by omega), hs, show pc l c + q - pc l c = q by omega, h2]
    · rw [if_neg hf] at h; cases h

theorem itm_sub (l : List Nat) (k : Nat) (hk : k < cn l) : (itm l k).Sublist l :=
  (rk_sub _ _ (itm_lt _ l k (Nat.le_refl _) hk)).1 (by rw [itm_rk _ l k (Nat.le_refl _) hk]; rfl)

/-- The items are in the order of strings. -/
theorem itm_mono : ∀ (n : Nat) (l : List Nat) (j k : Nat), l.length ≤ n → j < k → k < cn l → itm l j < itm l k := by
  intro n
  induction n with
  | zero =>
    intro l j k hl hj hk
    have : l = [] := List.length_eq_zero_iff.1 (by omega)
    subst this
    have : cn [] = 1 := rfl
    omega
  | succ n ih =>
    intro l j k hl hj hk
    obtain ⟨h1, h2, h3, h4⟩ := sel_spec (l := l) (k := k) (by omega) hk
    rw [itm_step (k := k) (by omega) hk]
    by_cases h0 : j = 0
    · subst h0; rw [itm_zero]; exact List.nil_lt_cons _ _
    · obtain ⟨g1, g2, g3, g4⟩ := sel_spec (l := l) (k := j) (by omega) (by omega)
      rw [itm_step (k := j) (by omega) (by omega)]
      have hle : sel l j ≤ sel l k := by
        unfold sel
        have a0 : pc l 0 ≤ pc l 1 := pc_mono l 0
        have a1 : pc l 1 ≤ pc l 2 := pc_mono l 1
        have a2 : pc l 2 ≤ pc l 3 := pc_mono l 2
        repeat' split
        all_goals omega
      by_cases he : sel l j = sel l k
      · rw [he] at g1 g2 g3 g4 ⊢
        rw [List.cons_lt_cons_iff]
        exact .inr ⟨rfl, ih _ _ _ (by rw [List.length_drop]; omega) (by omega) h4⟩
      · rw [List.cons_lt_cons_iff]
        exact .inl (by omega)

/-- There are as many items as subsequences. -/
theorem all_count (l : List Nat) (hl : Lt 4 l) (all : List (List Nat)) (hn : all.Nodup) (h : ∀ u, u ∈ all ↔ u.Sublist l) : all.length = cn l := by
  have hperm : all.Perm ((List.range (cn l)).map (itm l)) := by
    rw [List.perm_ext_iff_of_nodup hn]
    · intro u
      rw [h, List.mem_map]
      constructor
      · intro hu
        have hlu := hl.sub hu
        obtain ⟨r, hr⟩ := Option.isSome_iff_exists.1 ((rk_sub u l hlu).2 hu)
        obtain ⟨h1, h2⟩ := rk_itm u l r hlu hr
        exact ⟨r, List.mem_range.2 h1, h2⟩
      · rintro ⟨r, hr, rfl⟩
        exact itm_sub l r (List.mem_range.1 hr)
    · unfold List.Nodup
      rw [List.pairwise_map]
      refine (List.pairwise_lt_range (n := cn l)).imp_of_mem fun {a b} ha hb hlt e => ?_
      have h1 := itm_rk _ l a (Nat.le_refl _) (List.mem_range.1 ha)
      have h2 := itm_rk _ l b (Nat.le_refl _) (List.mem_range.1 hb)
      rw [e, h2] at h1
      have := Option.some.inj h1
      omega
  rw [hperm.length_eq]; simp
end Go.Proofs.Ytfjbodaakmapdaa.Th

/-! ## Tame -/
namespace Go.Proofs.Ytfjbodaakmapdaa
open Go.RowKit Th Kit Go.Proofs.YtfjbodaakmapdaaW.PrintWords Go.Proofs.YtfjbodaakmapdaaW.PrintLast Go.Proofs.YtfjbodaakmapdaaW.PrintMore

/-- A string's first bytes as letters. -/
def tml (s : ByteArray) (most k : Nat) : List Nat := ((bl s).take most).map fun x => 97 + x % k
theorem tml_len (s : ByteArray) (most k : Nat) : (tml s most k).length = min most s.size := by
  unfold tml; rw [List.length_map, List.length_take, bl_len]

def Given.tickinglaw03_tame.f (s : ByteArray) (most k : Int) : Option ByteArray :=
  if 0 ≤ most ∧ most ≤ 1000 ∧ 1 ≤ k ∧ k ≤ 4 then some (str (tml s most.toNat k.toNat)) else none

theorem info5 : (Try.prog.info? 5).map (fun i => (i.zero, i.size, i.bytes)) = some (some (.int .u8 0), 1, 1) := by kernel_rfl
theorem strOf_zs (l : List Nat) : strOfNums (zs l) = str l := by
  unfold strOfNums str zs
  rw [List.map_map]; rfl
theorem tml_snoc (s : ByteArray) (j k : Nat) (h : j < s.size) : tml s (j + 1) k = tml s j k ++ [97 + s[j].toNat % k] := by
  unfold tml
  rw [List.take_succ_eq_append_getElem (by rw [bl_len]; exact h), List.map_append, bl_get s j h]; rfl
theorem tml_all (s : ByteArray) (j k : Nat) (h : s.size ≤ j) : tml s j k = tml s s.size k := by
  unfold tml
  rw [List.take_of_length_le (by rw [bl_len]; exact h), List.take_of_length_le (by rw [bl_len]; exact Nat.le_refl _)]

set_option maxRecDepth 100000 in
set_option maxHeartbeats 4000000 in
theorem Given.tickinglaw03_tame.calls (a0 : ByteArray) (a1 a2 : Int) (r1 : ByteArray) (w : World) (h : Given.tickinglaw03_tame.f a0 a1 a2 = some r1) :
    Calls Try.prog 15 #[.string a0, .int .i64 a1, .int .i64 a2] w fun e w' => e = .returned (.string r1) ∧ Below w.heap.size w w' := by
  unfold Given.tickinglaw03_tame.f at h
  split at h
  · rename_i hb
    obtain ⟨h1, h2, h3, h4⟩ := hb
    obtain ⟨most, rfl⟩ : ∃ n : Nat, a1 = n := ⟨a1.toNat, by omega⟩
    obtain ⟨k, rfl⟩ : ∃ n : Nat, a2 = n := ⟨a2.toNat, by omega⟩
    rw [Int.toNat_natCast, Int.toNat_natCast] at h
    have Hr := Lib.hid (Option.some.inj h)
    clear h
    have hk0 : ((k : Int) == 0) = false := by simp; omega
    have hk1 : ((k : Int) != 0) = true := by simp; omega
    go_enter Try.func15, Try.ntmps15
    go_wp2
    go_loopw [7, 8] (fun v7 v8 wr => ∃ (j : Nat), v8 = .int .i64 j ∧ j ≤ a0.size ∧ j ≤ most ∧ Aside0 (Kd.R (Kd.int .u8) 5 wr w.heap.size (fun _ => True) v7 (zs (tml a0 j k))) ∧ Aside0 (Below w.heap.size w wr)) (fun _ v8 _ => a0.size - (intOf v8).toNat)
    case atStart => exact ⟨0, rfl, Nat.zero_le _, Nat.zero_le _, ⟨Kd.R_nil _ _ _ _ _⟩, ⟨Below.refl _ _⟩⟩
    case round =>
      obtain ⟨j, rfl, hj, hjm, HO, HB⟩ := hrel
      by_cases hlt : j < a0.size
      · by_cases hlm : j < most
        · have hsn := tml_snoc a0 j k hlt
          have Hsn := Lib.hid hsn
          clear hsn
          have hmod : a0[j].toNat % k < 4 := by have := Nat.mod_lt a0[j].toNat (show k > 0 by omega); omega
          have hX : (97 + (wrap64 (a0[j].toNat : Int)).tmod (k : Int)) % 256 = ((97 + a0[j].toNat % k : Nat) : Int) := by
            have h0 := a0[j].toNat_lt
            have e : wrap64 (a0[j].toNat : Int) = ((a0[j].toNat : Nat) : Int) := by unfold wrap64; omega
            rw [e, ← Int.ofNat_tmod]
            omega
          have HX := Lib.hid hX
          clear hX
          go_wp2_with ((with_reducible refine gate_builtin (b := .append) (xs := #[.tmp 20, .tmp 29]) rfl ?_); at_builtin; refine Kd.R_append (Kd.int .u8) (w0 := w) w.heap.size rfl (.tmp 20) (.tmp 29) 66 5 (.int .u8 0) 1 rfl Try.underlying66 info5 rfl (by decide) (by omega) u7 (zs (tml a0 j k)) ((97 + (wrap64 (a0[j].toNat : Int)).tmod (k : Int)) % 256) [.int .u8 ((97 + (wrap64 (a0[j].toNat : Int)).tmod (k : Int)) % 256)] (fun _ => True) (fun _ => False) rfl rfl rfl (fun _ hk => hk.elim) (fun _ _ => trivial) HO.out HB.out HB.out.size (by rw [zs_len, tml_len]; omega) ?_; intro v4 w4 ho hb hg hat)
          go_roundw
          case rel =>
            refine ⟨j + 1, by go_num, by omega, by omega, ⟨?_⟩, ⟨hb⟩⟩
            rw [Hsn.out, zs_snoc, ← HX.out]; exact ho
          case measure => simp [intOf]; omega
        · have hcv := own_string (P := Try.prog) Try.underlying66 Try.underlying5 Try.underlying9 (Kd.own_of_R HO.out)
          go_wp2
          go_ret
          obtain rfl : j = most := by omega
          rw [strOf_zs, Hr.out]
          exact ⟨rfl, HB.out⟩
      · have hcv := own_string (P := Try.prog) Try.underlying66 Try.underlying5 Try.underlying9 (Kd.own_of_R HO.out)
        go_wp2
        go_ret
        obtain rfl : j = a0.size := by omega
        rw [strOf_zs, ← tml_all a0 most k (by omega), Hr.out]
        exact ⟨rfl, HB.out⟩
  · cases h
end Go.Proofs.Ytfjbodaakmapdaa

/-! ## Lets -/
namespace Go.Proofs.Ytfjbodaakmapdaa
open Go.RowKit Th

theorem bl_strL {k : Nat} {l : List Nat} (h : Lt k l) (hk : k ≤ 4) : bl (str l) = l := bl_str l fun x hx => by have := h x hx; omega
theorem isW_str {l : List Nat} (h : Lt 4 l) (hl : l.length ≤ 60) : isW (str l) = true := by
  unfold isW
  rw [str_size, bl_strL h (Nat.le_refl _), decide_eq_true hl, Bool.true_and, List.all_eq_true]
  intro x hx
  have := h x hx
  exact decide_eq_true (by omega)
theorem lt_of_isW {s : ByteArray} (h : isW s = true) : Lt 4 (bl s) := by
  unfold isW at h
  rw [Bool.and_eq_true, List.all_eq_true] at h
  intro x hx
  have := of_decide_eq_true (h.2 x hx)
  omega
theorem tml_lt (s : ByteArray) (m k : Nat) (hk : 1 ≤ k) : Lt k (tml s m k) := by
  intro x hx
  unfold tml at hx
  obtain ⟨y, _, rfl⟩ := List.mem_map.1 hx
  have := Nat.mod_lt y (show k > 0 by omega)
  omega
theorem tame_f (s : ByteArray) (m k : Nat) (hm : m ≤ 1000) (hk : 1 ≤ k ∧ k ≤ 4) : Given.tickinglaw03_tame.f s m k = some (str (tml s m k)) := by
  unfold Given.tickinglaw03_tame.f
  rw [if_pos (by omega), Int.toNat_natCast, Int.toNat_natCast]
theorem bl_tml (s : ByteArray) (m k : Nat) (hk : 1 ≤ k ∧ k ≤ 4) : bl (str (tml s m k)) = tml s m k := bl_strL (tml_lt s m k hk.1) hk.2
theorem isW_tml (s : ByteArray) (m k : Nat) (hk : 1 ≤ k ∧ k ≤ 4) (hm : m ≤ 60) : isW (str (tml s m k)) = true :=
  isW_str ((tml_lt s m k hk.1).mono hk.2) (by rw [tml_len]; omega)
end Go.Proofs.Ytfjbodaakmapdaa

/-! ## Uni -/
namespace Go.Proofs.Ytfjbodaakmapdaa
open Go.RowKit Th

theorem tp_lo (l : List Nat) (i k : Nat) (hk : 1 ≤ k) : i ≤ tp l i k := Nat.le_trans (nx_ge l 0 i) (tp_ge l i k 0 hk)
/-- The need does not grow. -/
theorem nx_mono (l : List Nat) (c : Nat) : ∀ (n i : Nat), l.length - i ≤ n → i < l.length → nx l c i ≤ nx l c (i + 1)
  | 0, i, h, hi => by omega
  | n + 1, i, h, hi => by
    have := nx_step l c i hi
    split at this
    · have := nx_ge l c (i + 1); omega
    · omega
theorem nx_mono_le (l : List Nat) (c i j : Nat) (hij : i ≤ j) (hj : j ≤ l.length) : nx l c i ≤ nx l c j := by
  induction j with
  | zero => obtain rfl : i = 0 := by omega
            exact Nat.le_refl _
  | succ j ih =>
    by_cases e : i = j + 1
    · subst e; exact Nat.le_refl _
    · exact Nat.le_trans (ih (by omega) (by omega)) (nx_mono l c _ j (Nat.le_refl _) (by omega))
theorem tp_mono_le (l : List Nat) (i j : Nat) (hij : i ≤ j) (hj : j ≤ l.length) : ∀ k, tp l i k ≤ tp l j k
  | 0 => Nat.le_refl _
  | k + 1 => by
    have h1 := tp_mono_le l i j hij hj k
    have h2 := nx_mono_le l k i j hij hj
    rw [tp, tp]; omega
theorem ls_mono (l : List Nat) (k : Nat) (hk : 1 ≤ k) : ∀ (n i j : Nat), l.length + 1 - i ≤ n → i ≤ j → ls l k j ≤ ls l k i
  | n, i, j, hn, hij => by
    by_cases hj : j ≤ l.length
    · rw [ls_step l k i hk (by omega), ls_step l k j hk hj]
      have h1 := tp_mono_le l i j hij hj k
      have h2 := tp_lo l i k hk
      cases n with
      | zero => omega
      | succ n =>
        have := ls_mono l k hk n (tp l i k + 1) (tp l j k + 1) (by omega) (by omega)
        omega
    · rw [ls_end l k j (by omega)]; exact Nat.zero_le _

/-- All shorter words are subsequences. -/
theorem short_sub (l : List Nat) (k : Nat) (hk : 1 ≤ k) : ∀ (u : List Nat) (i : Nat), i ≤ l.length → Lt k u → u.length < ls l k i → u.Sublist (l.drop i)
  | [], _, _, _, _ => List.nil_sublist _
  | x :: u, i, hi, hu, h => by
    obtain ⟨c, rfl⟩ : ∃ c, x = 97 + c := ⟨x - 97, by have := hu.head; omega⟩
    have hc := hu.head
    rw [sub_nx l u c i hi]
    have h1 := tp_ge l i k c (by omega)
    have h2 := tp_le l i hi k
    rw [ls_step l k i hk hi] at h
    simp only [List.length_cons] at h
    have h3 : tp l i k < l.length := by
      by_cases e : tp l i k < l.length
      · exact e
      · rw [ls_end l k (tp l i k + 1) (by omega)] at h; omega
    have h4 := ls_mono l k hk _ (nx l c i + 1) (tp l i k + 1) (Nat.le_refl _) (by omega)
    exact ⟨by omega, short_sub l k hk u _ (by omega) hu.tail (by omega)⟩

theorem ab_find (l : List Nat) (k i : Nat) (hk : 1 ≤ k) (hi : i ≤ l.length) : ∃ c, c < k ∧ (List.range k).find? (fun c => 1 + ls l k (nx l c i + 1) == ls l k i) = some c ∧ 1 + ls l k (nx l c i + 1) = ls l k i := by
  cases h : (List.range k).find? (fun c => 1 + ls l k (nx l c i + 1) == ls l k i) with
  | none =>
    rw [List.find?_eq_none] at h
    obtain ⟨c, hc, e⟩ := tp_in l i k hk
    have := h c (List.mem_range.2 hc)
    rw [← e, ls_step l k i hk hi] at this
    simp at this
  | some c =>
    have h1 := List.find?_some h
    have h2 := List.mem_of_find?_eq_some h
    exact ⟨c, List.mem_range.1 h2, rfl, by simpa using h1⟩

theorem ab_spec (l : List Nat) (k : Nat) (hk : 1 ≤ k) : ∀ (f i : Nat), l.length + 1 ≤ f + i → i ≤ l.length → (ab l k f i).length = ls l k i ∧ Lt k (ab l k f i) ∧ ¬ (ab l k f i).Sublist (l.drop i)
  | 0, i, h, hi => by omega
  | f + 1, i, h, hi => by
    obtain ⟨c, hc, hfind, heq⟩ := ab_find l k i hk hi
    have hge := nx_ge l c i
    rw [ab, if_pos hi, hfind]
    simp only
    by_cases hn : nx l c i < l.length
    · obtain ⟨h1, h2, h3⟩ := ab_spec l k hk f (nx l c i + 1) (by omega) (by omega)
      refine ⟨by rw [List.length_cons, h1]; omega, ?_, ?_⟩
      · intro x hx
        rcases List.mem_cons.1 hx with rfl | hx
        · omega
        · exact h2 x hx
      · rw [sub_nx l _ c i hi]
        exact fun h => h3 h.2
    · have hab : ab l k f (nx l c i + 1) = [] := by
        cases f with
        | zero => rfl
        | succ f => rw [ab, if_neg (by omega)]
      rw [hab]
      rw [ls_end l k (nx l c i + 1) (by omega)] at heq
      refine ⟨by simp; omega, ?_, ?_⟩
      · intro x hx
        rcases List.mem_cons.1 hx with rfl | hx
        · omega
        · cases hx
      · rw [sub_nx l _ c i hi]
        exact fun h => hn h.1

theorem ar_len (l : List Nat) (k : Nat) (hk : 1 ≤ k) : ∀ (f i : Nat), l.length + 1 ≤ f + i → i ≤ l.length → (ar l k f i).length + 1 = ls l k i
  | 0, i, h, hi => by omega
  | f + 1, i, h, hi => by
    have h1 := tp_lo l i k hk
    have h2 := tp_le l i hi k
    rw [ar, ls_step l k i hk hi]
    by_cases e : tp l i k = l.length
    · rw [if_pos e, ls_end l k _ (by omega)]; rfl
    · rw [if_neg e, List.length_cons, ar_len l k hk f (tp l i k + 1) (by omega) (by omega)]; omega

/-! ### A word repeated -/
theorem fnd_app (c : Nat) : ∀ (a b : List Nat), fnd c (a ++ b) = if fnd c a < a.length then fnd c a else a.length + fnd c b
  | [], b => by simp [fnd]
  | x :: a, b => by
    rw [List.cons_append, fnd, fnd]
    by_cases e : x = 97 + c
    · rw [if_pos e, if_pos e, if_pos (by simp)]
    · rw [if_neg e, if_neg e, fnd_app c a b]
      simp only [List.length_cons]
      split <;> split <;> omega
theorem nx_app (a b : List Nat) (c i : Nat) (hi : i ≤ a.length) : nx (a ++ b) c i = if nx a c i < a.length then nx a c i else a.length + fnd c b := by
  unfold nx
  rw [List.drop_append_of_le_length hi, fnd_app, List.length_drop]
  split <;> split <;> omega
theorem nx_app2 (a b : List Nat) (c i : Nat) : nx (a ++ b) c (a.length + i) = a.length + nx b c i := by
  unfold nx
  rw [List.drop_append, List.drop_eq_nil_of_le (show a.length ≤ a.length + i by omega), List.nil_append, show a.length + i - a.length = i by omega]
  omega
theorem tp_app (a b : List Nat) (i : Nat) (hi : i ≤ a.length) : ∀ k, tp a i k < a.length → tp (a ++ b) i k = tp a i k
  | 0, _ => rfl
  | k + 1, h => by
    rw [tp] at h
    rw [tp, tp, tp_app a b i hi k (by omega), nx_app a b k i hi, if_pos (by omega)]
theorem tp_app2 (a b : List Nat) (i : Nat) : ∀ k, 1 ≤ k → tp (a ++ b) (a.length + i) k = a.length + tp b i k
  | 1, _ => by simp [tp, nx_app2]
  | k + 2, _ => by
    rw [tp, tp_app2 a b i (k + 1) (by omega), nx_app2, tp.eq_2 b i (k + 1)]
    omega

theorem ar_app2 (a b : List Nat) (k : Nat) (hk : 1 ≤ k) : ∀ (f i : Nat), ar (a ++ b) k f (a.length + i) = (ar b k f i).map (a.length + ·)
  | 0, i => rfl
  | f + 1, i => by
    rw [ar, ar, tp_app2 a b i k hk, List.length_append]
    by_cases e : tp b i k = b.length
    · rw [if_pos (by omega), if_pos e]; rfl
    · rw [if_neg (by omega), if_neg e, Nat.add_assoc, ar_app2 a b k hk f (tp b i k + 1)]; rfl
theorem ar_irr (l : List Nat) (k : Nat) (hk : 1 ≤ k) : ∀ (f g i : Nat), i ≤ l.length → l.length + 1 ≤ f + i → l.length + 1 ≤ g + i → ar l k f i = ar l k g i
  | 0, _, i, hi, h, _ => by omega
  | _, 0, i, hi, _, h => by omega
  | f + 1, g + 1, i, hi, h1, h2 => by
    have h3 := tp_lo l i k hk
    have h4 := tp_le l i hi k
    rw [ar, ar]
    by_cases e : tp l i k = l.length
    · rw [if_pos e, if_pos e]
    · rw [if_neg e, if_neg e, ar_irr l k hk f g _ (by omega) (by omega) (by omega)]
/-- The arches of a word repeated, where the word ends with an arch. -/
theorem ar_twice (l : List Nat) (k : Nat) (hk : 1 ≤ k) : ∀ (f g i : Nat), i ≤ l.length → l.length + 1 ≤ f + i → l.length + l.length + 1 ≤ g + i → (ar l k f i).getLast? = some (l.length - 1) →
    ar (l ++ l) k g i = ar l k f i ++ (ar l k (l.length + 1) 0).map (l.length + ·)
  | 0, _, i, hi, h, _, _ => by omega
  | f + 1, 0, i, hi, _, h, _ => by omega
  | f + 1, g + 1, i, hi, h1, h2, hl => by
    have h3 := tp_lo l i k hk
    have h4 := tp_le l i hi k
    rw [ar] at hl ⊢
    rw [ar.eq_2 l]
    by_cases e : tp l i k = l.length
    · rw [if_pos e] at hl; cases hl
    · rw [if_neg e] at hl ⊢
      rw [tp_app l l i hi k (by omega), List.length_append, if_neg (by omega)]
      rw [List.cons_append]
      congr 1
      by_cases hend : tp l i k + 1 = l.length
      · have : ar l k f (tp l i k + 1) = [] := by
          cases f with
          | zero => rfl
          | succ f =>
            rw [ar, hend, if_pos]
            have := tp_lo l l.length k hk
            have := tp_le l l.length (Nat.le_refl _) k
            omega
        rw [this, List.nil_append, hend]
        have e2 := ar_app2 l l k hk g 0
        rw [Nat.add_zero] at e2
        rw [e2, ar_irr l k hk g (l.length + 1) 0 (Nat.zero_le _) (by omega) (by omega)]
      · refine ar_twice l k hk f g _ (by omega) (by omega) (by omega) ?_
        cases hr : ar l k f (tp l i k + 1) with
        | nil =>
          rw [hr] at hl
          simp at hl
          omega
        | cons y r =>
          rw [hr] at hl
          rw [List.getLast?_cons_cons] at hl
          exact hl
end Go.Proofs.Ytfjbodaakmapdaa

/-! ## LongP -/
namespace Go.Proofs.Ytfjbodaakmapdaa
open Go.RowKit Th

/-- A row of the table, from the row below. -/
def moR (a : Nat) (f : List Nat → Nat) : List Nat → Nat
  | [] => 0
  | b :: y => if a = b then max (max (f (b :: y)) (moR a f y)) (1 + f y) else max (f (b :: y)) (moR a f y)
/-- The length of a longest common subsequence. -/
def mo : List Nat → List Nat → Nat
  | [] => fun _ => 0
  | a :: x => moR a (mo x)
theorem mo_nil (y : List Nat) : mo [] y = 0 := rfl
theorem mo_nil2 (x : List Nat) : mo x [] = 0 := by cases x <;> rfl
theorem mo_cons (a : Nat) (x : List Nat) (b : Nat) (y : List Nat) : mo (a :: x) (b :: y) = if a = b then max (max (mo x (b :: y)) (mo (a :: x) y)) (1 + mo x y) else max (mo x (b :: y)) (mo (a :: x) y) := rfl

theorem mo_ge : ∀ (x y u : List Nat), u.Sublist x → u.Sublist y → u.length ≤ mo x y := by
  intro x
  induction x with
  | nil => intro y u hx _; rw [List.sublist_nil.1 hx]; exact Nat.zero_le _
  | cons a x ihx =>
    intro y
    induction y with
    | nil => intro u _ hy; rw [List.sublist_nil.1 hy]; exact Nat.zero_le _
    | cons b y ihy =>
      intro u hx hy
      rw [mo_cons]
      have hx2 := hx
      rw [List.sublist_cons_iff] at hx2
      rcases hx2 with h | ⟨r, rfl, h⟩
      · have := ihx (b :: y) u h hy
        split <;> omega
      · have hy2 := hy
        rw [List.sublist_cons_iff] at hy2
        rcases hy2 with g | ⟨r', e, g⟩
        · have := ihy (a :: r) hx g
          split <;> omega
        · obtain ⟨rfl, rfl⟩ := List.cons.inj e
          rw [if_pos rfl]
          have := ihx y r h g
          simp only [List.length_cons]; omega
theorem mo_ex : ∀ (x y : List Nat), ∃ u : List Nat, u.Sublist x ∧ u.Sublist y ∧ u.length = mo x y := by
  intro x
  induction x with
  | nil => intro y; exact ⟨[], List.Sublist.refl _, List.nil_sublist _, rfl⟩
  | cons a x ihx =>
    intro y
    induction y with
    | nil => exact ⟨[], List.nil_sublist _, List.Sublist.refl _, (mo_nil2 _).symm⟩
    | cons b y ihy =>
      obtain ⟨u1, h1, h2, h3⟩ := ihx (b :: y)
      obtain ⟨u2, g1, g2, g3⟩ := ihy
      obtain ⟨u3, k1, k2, k3⟩ := ihx y
      rw [mo_cons]
      by_cases e : a = b
      · subst e
        rw [if_pos rfl]
        by_cases c1 : max (mo x (a :: y)) (mo (a :: x) y) ≤ 1 + mo x y
        · exact ⟨a :: u3, k1.cons_cons a, k2.cons_cons a, by simp only [List.length_cons]; omega⟩
        · by_cases c2 : mo x (a :: y) ≤ mo (a :: x) y
          · exact ⟨u2, g1, g2.cons a, by omega⟩
          · exact ⟨u1, h1.cons a, h2, by omega⟩
      · rw [if_neg e]
        by_cases c2 : mo x (b :: y) ≤ mo (a :: x) y
        · exact ⟨u2, g1, g2.cons b, by omega⟩
        · exact ⟨u1, h1.cons a, h2, by omega⟩
theorem mo_le (x y : List Nat) : mo x y ≤ x.length ∧ mo x y ≤ y.length := by
  obtain ⟨u, h1, h2, h3⟩ := mo_ex x y
  have := h1.length_le
  have := h2.length_le
  omega
theorem mo_comm (x y : List Nat) : mo x y = mo y x := by
  obtain ⟨u, h1, h2, h3⟩ := mo_ex x y
  obtain ⟨v, g1, g2, g3⟩ := mo_ex y x
  have := mo_ge y x u h2 h1
  have := mo_ge x y v g2 g1
  omega
theorem mo_self (x : List Nat) : mo x x = x.length := by
  have := mo_ge x x x (List.Sublist.refl _) (List.Sublist.refl _)
  have := (mo_le x x).1
  omega

/-- Is the letter number c the next one of a longest common subsequence, from positions on? -/
def lgP (x y : List Nat) (i j c : Nat) : Bool := (decide (nx x c i < x.length) && decide (nx y c j < y.length)) && (1 + mo (x.drop (nx x c i + 1)) (y.drop (nx y c j + 1)) == mo (x.drop i) (y.drop j))
def lg (x y : List Nat) : Nat → Nat → Nat → List Nat
  | 0, _, _ => []
  | f + 1, i, j => if mo (x.drop i) (y.drop j) = 0 then [] else match (List.range 4).find? (lgP x y i j) with
    | some c => (97 + c) :: lg x y f (nx x c i + 1) (nx y c j + 1)
    | none => []

theorem lgP_true {x y : List Nat} {i j c : Nat} (h : lgP x y i j c = true) : nx x c i < x.length ∧ nx y c j < y.length ∧ 1 + mo (x.drop (nx x c i + 1)) (y.drop (nx y c j + 1)) = mo (x.drop i) (y.drop j) := by
  unfold lgP at h
  simp only [Bool.and_eq_true, decide_eq_true_eq, beq_iff_eq] at h
  exact ⟨h.1.1, h.1.2, h.2⟩
theorem lg_find (x y : List Nat) (hx : Lt 4 x) (i j : Nat) (hi : i ≤ x.length) (hj : j ≤ y.length) (h0 : mo (x.drop i) (y.drop j) ≠ 0) : ∃ c, c < 4 ∧ (List.range 4).find? (lgP x y i j) = some c ∧ lgP x y i j c = true := by
  cases h : (List.range 4).find? (lgP x y i j) with
  | some c => exact ⟨c, List.mem_range.1 (List.mem_of_find?_eq_some h), rfl, List.find?_some h⟩
  | none =>
    exfalso
    rw [List.find?_eq_none] at h
    obtain ⟨u, h1, h2, h3⟩ := mo_ex (x.drop i) (y.drop j)
    cases u with
    | nil => exact h0 h3.symm
    | cons a u =>
      have ha := (hx.drop i).sub h1 |>.head
      obtain ⟨c, rfl⟩ : ∃ c, a = 97 + c := ⟨a - 97, by omega⟩
      rw [sub_nx x u c i hi] at h1
      rw [sub_nx y u c j hj] at h2
      have h4 := mo_ge _ _ u h1.2 h2.2
      obtain ⟨v, g1, g2, g3⟩ := mo_ex (x.drop (nx x c i + 1)) (y.drop (nx y c j + 1))
      have h5 := mo_ge (x.drop i) (y.drop j) ((97 + c) :: v) ((sub_nx x v c i hi).2 ⟨h1.1, g1⟩) ((sub_nx y v c j hj).2 ⟨h2.1, g2⟩)
      refine h c (List.mem_range.2 (by omega)) ?_
      unfold lgP
      rw [decide_eq_true h1.1, decide_eq_true h2.1, Bool.true_and, Bool.true_and, beq_iff_eq]
      simp only [List.length_cons] at h3 h5
      omega

theorem lg_spec (x y : List Nat) (hx : Lt 4 x) : ∀ (f i j : Nat), x.length ≤ f + i → i ≤ x.length → j ≤ y.length → (lg x y f i j).Sublist (x.drop i) ∧ (lg x y f i j).Sublist (y.drop j) ∧ (lg x y f i j).length = mo (x.drop i) (y.drop j)
  | 0, i, j, h, hi, hj => by
    obtain rfl : i = x.length := by omega
    rw [List.drop_length]
    exact ⟨List.nil_sublist _, List.nil_sublist _, rfl⟩
  | f + 1, i, j, h, hi, hj => by
    rw [lg]
    by_cases h0 : mo (x.drop i) (y.drop j) = 0
    · rw [if_pos h0]; exact ⟨List.nil_sublist _, List.nil_sublist _, h0.symm⟩
    · rw [if_neg h0]
      obtain ⟨c, hc, hf, hp⟩ := lg_find x y hx i j hi hj h0
      obtain ⟨h1, h2, h3⟩ := lgP_true hp
      have hge := nx_ge x c i
      obtain ⟨g1, g2, g3⟩ := lg_spec x y hx f (nx x c i + 1) (nx y c j + 1) (by omega) (by omega) (by omega)
      rw [hf]
      simp only
      refine ⟨(sub_nx x _ c i hi).2 ⟨h1, g1⟩, (sub_nx y _ c j hj).2 ⟨h2, g2⟩, by rw [List.length_cons, g3]; omega⟩

theorem lgP_comm (x y : List Nat) (i j c : Nat) : lgP x y i j c = lgP y x j i c := by
  unfold lgP
  rw [mo_comm (x.drop i), mo_comm (x.drop (nx x c i + 1)), Bool.and_comm (decide (nx x c i < x.length))]
theorem lg_comm (x y : List Nat) : ∀ (f i j : Nat), lg x y f i j = lg y x f j i
  | 0, _, _ => rfl
  | f + 1, i, j => by
    rw [lg, lg, mo_comm]
    have e : lgP x y i j = lgP y x j i := funext fun c => lgP_comm x y i j c
    rw [e]
    cases (List.range 4).find? (lgP y x j i) with
    | none => rfl
    | some c => simp only [lg_comm x y f]
theorem lg_irr (x y : List Nat) (hx : Lt 4 x) : ∀ (f g i j : Nat), i ≤ x.length → j ≤ y.length → x.length ≤ f + i → x.length ≤ g + i → lg x y f i j = lg x y g i j := by
  have z : ∀ (i j : Nat), x.length ≤ i → mo (x.drop i) (y.drop j) = 0 := fun i j h => by rw [List.drop_eq_nil_of_le h]; rfl
  intro f
  induction f with
  | zero =>
    intro g i j hi hj h1 h2
    cases g with
    | zero => rfl
    | succ g => rw [lg, lg, if_pos (z i j (by omega))]
  | succ f ih =>
    intro g i j hi hj h1 h2
    cases g with
    | zero => rw [lg, lg, if_pos (z i j (by omega))]
    | succ g =>
      rw [lg, lg]
      by_cases h0 : mo (x.drop i) (y.drop j) = 0
      · rw [if_pos h0, if_pos h0]
      · rw [if_neg h0, if_neg h0]
        obtain ⟨c, hc, hf, hp⟩ := lg_find x y hx i j hi hj h0
        obtain ⟨h3, h4, h5⟩ := lgP_true hp
        have hge := nx_ge x c i
        rw [hf]
        simp only
        rw [ih g _ _ (by omega) (by omega) (by omega) (by omega)]
/-- A word's own longest one. -/
theorem lg_self (x : List Nat) (hx : Lt 4 x) (f : Nat) (h : x.length ≤ f) : lg x x f 0 0 = x := by
  obtain ⟨h1, h2, h3⟩ := lg_spec x x hx f 0 0 (by omega) (Nat.zero_le _) (Nat.zero_le _)
  rw [List.drop_zero] at h1 h3
  rw [mo_self] at h3
  exact h1.eq_of_length h3
/-- The longest one is the same from both sides. -/
theorem lg_both (x y : List Nat) (hx : Lt 4 x) (hy : Lt 4 y) (f g : Nat) (h : x.length ≤ f) (h' : y.length ≤ g) : lg x y f 0 0 = lg y x g 0 0 := by
  rw [lg_irr x y hx f (f + g) 0 0 (Nat.zero_le _) (Nat.zero_le _) (by omega) (by omega), lg_comm, lg_irr y x hy (f + g) g 0 0 (Nat.zero_le _) (Nat.zero_le _) (by omega) (by omega)]
end Go.Proofs.Ytfjbodaakmapdaa

/-! ## Long -/
namespace Go.Proofs.Ytfjbodaakmapdaa
open Go.RowKit Go.Shelf Th Kit Go.Proofs.YtfjbodaakmapdaaW.PrintWords
attribute [local go_sem] Oper.semAt_some

theorem vi_eq {a b : Int} (h : a = b) : Value.int .i64 a = .int .i64 b := by rw [h]
/-- The table: a cell of each pair of positions that P names is done. -/
structure LT (x y : List Nat) (P : Nat → Nat → Prop) (cs : Array Value) : Prop where
  size : cs.size = 3721
  row : ∀ r c, P r c → r ≤ 60 → c ≤ 60 → cs[r * 61 + c]? = some (.int .i64 (mo (x.drop r) (y.drop c)))
theorem LT.set {x y : List Nat} {P Q : Nat → Nat → Prop} {cs : Array Value} (h : LT x y P cs) (i j : Nat) (hi : i ≤ 60) (hj : j ≤ 60) (v : Value) (hv : Q i j → v = .int .i64 (mo (x.drop i) (y.drop j))) (hQ : ∀ r c, Q r c → (r = i ∧ c = j) ∨ P r c) :
    LT x y Q (cs.setIfInBounds (i * 61 + j) v) := by
  refine ⟨by rw [Array.size_setIfInBounds]; exact h.size, fun r c hq hr hc => ?_⟩
  by_cases e : r = i ∧ c = j
  · obtain ⟨rfl, rfl⟩ := e
    rw [Array.getElem?_setIfInBounds_self, if_pos (by rw [h.size]; omega), hv hq]
  · rw [Array.getElem?_setIfInBounds_ne (by omega)]
    exact h.row r c ((hQ r c hq).resolve_left e) hr hc
theorem LT.mono {x y : List Nat} {P Q : Nat → Nat → Prop} {cs : Array Value} (h : LT x y P cs) (hQ : ∀ r c, Q r c → P r c) : LT x y Q cs := ⟨h.size, fun r c hq => h.row r c (hQ r c hq)⟩

/-- Longest's variables in memory, and that nothing else has changed. -/
structure LgS (b13 : Nat) (S : Nat → Prop) (W0 W : World) (i j : Nat) (out : ByteArray) : Prop where
  ho : Blk W b13 #[.string out] 9
  ha : Blk W (b13 + 1) #[.int .i64 i] 3
  he : Blk W (b13 + 2) #[.int .i64 j] 3
  but : But S W0 W
theorem LgS.turn {b13 i j : Nat} {S : Nat → Prop} {W0 W W' : World} {out : ByteArray} {row : Option Nat} (h : LgS b13 S W0 W i j out) (hg : W.grownBy W' row) (hr : Turn W0.heap.size W row) : LgS b13 S W0 W' i j out :=
  ⟨h.ho.turn hg hr, h.ha.turn hg hr, h.he.turn hg hr, h.but.turn hg hr⟩

set_option maxRecDepth 100000 in
set_option maxHeartbeats 4000000 in
theorem longest_walk (s t : ByteArray) (w : World) (hs : isW s = true) (ht : isW t = true) :
    Calls Try.prog 31 #[.string s, .string t] w (ItemPost (str (lg (bl s) (bl t) 61 0 0)) 0 w) := by
  obtain ⟨hs60, hsl⟩ := (isW_iff s).1 hs
  obtain ⟨ht60, htl⟩ := (isW_iff t).1 ht
  have Hs := Lib.hid hs
  have Ht := Lib.hid ht
  have Hsl := Lib.hid hsl
  have Htl := Lib.hid htl
  have Hb1 := Lib.hid (bl_len s)
  have Hb2 := Lib.hid (bl_len t)
  clear hs ht hsl htl
  refine (callsIn_wide (n := 9)).1 ?_
  refine callsIn_of_wp_marks Try.func31 rfl trivial ?_ rfl
  simp only [Try.ntmps31, List.size_toArray, List.length_cons, List.length_nil, Nat.reduceAdd, Nat.reduceSub, Array.replicate_succ, Array.replicate_zero, List.push_toArray, List.append_toArray, List.nil_append, List.cons_append]
  refine wpIn_wide.2 ?_
  go_wp2_with fail
  refine (newWord_yes s _ Hs.out).mono ?_
  rintro e w1 ⟨rfl, hw1, hB1⟩
  have hlt1 := hw1.lt
  go_wp2_with fail
  have hp2 := Blk.new w1 #[.pointer (some ⟨w.heap.size, 0, none⟩)] 67
  have hw2 := hw1.below (below_new w1 (.cells #[.pointer (some ⟨w.heap.size, 0, none⟩)] 67))
  have hB2 := hB1.trans ((below_new w1 (.cells #[.pointer (some ⟨w.heap.size, 0, none⟩)] 67)).mono hB1.size)
  clear hw1 hB1
  refine (newWord_yes t _ Ht.out).mono ?_
  rintro e w2 ⟨rfl, hv2, hB3⟩
  have hlt2 := hv2.lt
  have hs3 := hB3.size
  have hw3 := hw2.below hB3
  have hp3 := hp2.below' hB3
  have hB4 := hB2.trans (hB3.mono hB2.size)
  clear hw2 hp2 hB2 hB3
  simp only [World.size_alloc] at hv2 hlt2 hs3 ⊢
  go_wp2
  have hx0 := hw3.below (below_new w2 (.cells #[.pointer (some ⟨w1.heap.size + 1, 0, none⟩)] 67))
  have hy0 := hv2.below (below_new w2 (.cells #[.pointer (some ⟨w1.heap.size + 1, 0, none⟩)] 67))
  have hp0 := hp3.alloc (.cells #[.pointer (some ⟨w1.heap.size + 1, 0, none⟩)] 67)
  have hq0 := Blk.new w2 #[.pointer (some ⟨w1.heap.size + 1, 0, none⟩)] 67
  have hB0 := hB4.trans ((below_new w2 (.cells #[.pointer (some ⟨w1.heap.size + 1, 0, none⟩)] 67)).mono hB4.size)
  have hz0 : (w2.alloc (.cells #[.pointer (some ⟨w1.heap.size + 1, 0, none⟩)] 67)).heap.size = w2.heap.size + 1 := by simp
  generalize w2.alloc (.cells #[.pointer (some ⟨w1.heap.size + 1, 0, none⟩)] 67) = W0 at hx0 hy0 hp0 hq0 hB0 hz0 ⊢
  have hm0 := Blk.new W0 Try.zeroCells86 86
  have hm1 := below_new W0 (.cells Try.zeroCells86 86)
  rw [hz0] at hm0
  clear hv2 hw3 hp3 hB4
  have hzc : LT (bl s) (bl t) (fun r c => s.size ≤ r ∨ t.size ≤ c) Try.zeroCells86 := by
    refine ⟨by kernel_rfl, fun r c h hr hc => ?_⟩
    have hall : ∀ j : Fin 3721, Try.zeroCells86[j.val]? = some (.int .i64 ((0 : Nat) : Int)) := by
      intro j
      have e : Try.zeroCells86 = Array.replicate 3721 (.int .i64 0) := by kernel_rfl
      rw [e, Array.getElem?_replicate, if_pos j.isLt]; rfl
    have h1 := hall ⟨r * 61 + c, by omega⟩
    rw [h1]
    rcases h with h | h
    · rw [List.drop_eq_nil_of_le (by rw [Hb1.out]; exact h)]; rfl
    · rw [show (bl t).drop c = [] from List.drop_eq_nil_of_le (by rw [Hb2.out]; exact h), mo_nil2]
  have Hzc := Lib.hid hzc
  clear hzc
  go_loopw [11] (fun v wr => ∃ (q : Int) (m : Nat), v = .int .i64 q ∧ q = m - 1 ∧ m ≤ s.size ∧ Below W0.heap.size W0 wr ∧ ∃ cs, Blk wr (w2.heap.size + 1) cs 86 ∧ LT (bl s) (bl t) (fun r c => m ≤ r ∨ t.size ≤ c) cs) (fun v _ => (intOf v + 1).toNat)
  case atStart =>
    exact ⟨_, s.size, rfl, by omega, Nat.le_refl _, hm1, _, hm0, Hzc.out⟩
  case round =>
    obtain ⟨q, m, rfl, hq, hm, hB1, cs, hcs, hrow⟩ := hrel
    have Hrow := Lib.hid hrow
    clear hrow Hzc hm0 hm1
    cases m with
    | zero =>
      obtain rfl : q = -1 := by omega
      clear hq
      go_wp2_with fail
      have hx1 := hx0.below hB1
      have hy1 := hy0.below hB1
      have hp1 := hp0.below' hB1
      have hq1 := hq0.below' hB1
      have hBw := hB0.trans (hB1.mono hB0.size)
      clear hx0 hy0 hp0 hq0 hB0 hB1
      obtain ⟨b13, hb⟩ : ∃ b, b = wr.heap.size := ⟨_, rfl⟩
      have q0 := hcs.lt
      have hx0 := hx1.below (below_new3 wr (.cells #[.string ⟨#[]⟩] 9) (.cells #[.int .i64 0] 3) (.cells #[.int .i64 0] 3))
      have hy0 := hy1.below (below_new3 wr (.cells #[.string ⟨#[]⟩] 9) (.cells #[.int .i64 0] 3) (.cells #[.int .i64 0] 3))
      have hp0 := hp1.below' (below_new3 wr (.cells #[.string ⟨#[]⟩] 9) (.cells #[.int .i64 0] 3) (.cells #[.int .i64 0] 3))
      have hq0 := hq1.below' (below_new3 wr (.cells #[.string ⟨#[]⟩] 9) (.cells #[.int .i64 0] 3) (.cells #[.int .i64 0] 3))
      have hl0 := hcs.below' (below_new3 wr (.cells #[.string ⟨#[]⟩] 9) (.cells #[.int .i64 0] 3) (.cells #[.int .i64 0] 3))
      have hB0 := hBw.trans ((below_new3 wr (.cells #[.string ⟨#[]⟩] 9) (.cells #[.int .i64 0] 3) (.cells #[.int .i64 0] 3)).mono hBw.size)
      have ho0 := ((Blk.new wr #[.string ⟨#[]⟩] 9).alloc (.cells #[.int .i64 0] 3)).alloc (.cells #[.int .i64 0] 3)
      have ha0 := (Blk.new2 wr (.cells #[.string ⟨#[]⟩] 9) #[.int .i64 0] 3).alloc (.cells #[.int .i64 0] 3)
      have he0 := Blk.new3 wr (.cells #[.string ⟨#[]⟩] 9) (.cells #[.int .i64 0] 3) #[.int .i64 0] 3
      have hs0 : (((wr.alloc (.cells #[.string ⟨#[]⟩] 9)).alloc (.cells #[.int .i64 0] 3)).alloc (.cells #[.int .i64 0] 3)).heap.size = wr.heap.size + 3 := by simp
      generalize ((wr.alloc (.cells #[.string ⟨#[]⟩] 9)).alloc (.cells #[.int .i64 0] 3)).alloc (.cells #[.int .i64 0] 3) = W3 at hx0 hy0 hp0 hq0 hl0 hB0 ho0 ha0 he0 hs0 ⊢
      have e2 : wr.heap.size + 1 + 1 = wr.heap.size + 2 := rfl
      rw [e2]
      clear e2
      rw [← hb] at ho0 ha0 he0 hs0 q0 ⊢
      clear hx1 hy1 hp1 hq1 hcs hBw hb
      have hp0lt := hp0.lt
      have hq0lt := hq0.lt
      obtain ⟨S, hS⟩ : ∃ S : Nat → Prop, S = fun b => b13 ≤ b := ⟨_, rfl⟩
      have HS := Lib.hid hS
      clear hS
      have hs3' := hs3
      refine wp_loop (fun a wr => ∃ (u94 u95 u96 u97 u98 u99 u100 : Value) (ds : List Deferred) (i j top f : Nat) (pre : List Nat),
        a = { tmps := #[Value.string s, Value.string t, undef, undef, Value.string { data := #[] }, Value.int IntKind.i64 0, Value.pointer (some ⟨w1.heap.size, 0, none⟩), Value.bool true, Value.pointer (some ⟨w2.heap.size, 0, none⟩), Value.bool true, Value.pointer (some ⟨w2.heap.size + 1, 0, none⟩), Value.int IntKind.i64 (-1), u12, Value.pointer (some ⟨b13, 0, none⟩), Value.pointer (some ⟨b13 + 1, 0, none⟩), Value.pointer (some ⟨b13 + 2, 0, none⟩), undef, undef, undef, undef, undef, undef, Value.tuple #[Value.pointer (some ⟨w.heap.size, 0, none⟩), Value.bool true], Value.string s, Value.tuple #[Value.pointer (some ⟨w.heap.size, 0, none⟩), Value.bool true], Value.pointer (some ⟨w.heap.size, 0, none⟩), Value.bool true, Value.tuple #[Value.pointer (some ⟨w1.heap.size + 1, 0, none⟩), Value.bool true], Value.string t, Value.tuple #[Value.pointer (some ⟨w1.heap.size + 1, 0, none⟩), Value.bool true], Value.pointer (some ⟨w1.heap.size + 1, 0, none⟩), Value.bool true, Value.bool true, Value.bool false, Value.bool false, Value.bool true, Value.bool false, Value.bool false, Value.string s, Value.int IntKind.i64 ↑s.size, Value.int IntKind.i64 (↑s.size - 1), Value.int IntKind.i64 (-1), Value.bool false, u43, u44, u45, u46, u47, u48, u49, u50, u51, u52, u53, u54, u55, u56, u57, u58, u59, u60, u61, u62, u63, u64, u65, u66, u67, u68, u69, u70, u71, u72, u73, u74, u75, u76, u77, u78, u79, u80, u81, u82, u83, u84, u85, u86, u87, u88, u89, u90, u91, u92, u93, u94, u95, u96, u97, u98, u99, u100, undef, undef, undef, undef, undef, undef, undef, undef, undef, undef, undef, undef, undef, undef, undef, undef, undef, undef, undef, undef, undef, undef, undef, undef, undef, undef, undef, undef, undef, undef, undef, undef, undef, undef, undef, undef, undef, undef, undef, undef], defers := ds } ∧ Blk wr b13 #[.string (str pre)] 9 ∧ Blk wr (b13 + 1) #[.int .i64 i] 3 ∧ Blk wr (b13 + 2) #[.int .i64 j] 3 ∧
        i ≤ s.size ∧ j ≤ t.size ∧ s.size + 1 ≤ f + i ∧ RowKit.Hid (lg (bl s) (bl t) 61 0 0 = pre ++ lg (bl s) (bl t) f i j) ∧ pre.length ≤ i ∧ But S W3 wr ∧ Marks W3.heap.size wr ds top ∧ top ≤ wr.heap.size)
        (fun _ wr => s.size - (intOf ((wr.cell? ⟨b13 + 1, 0, none⟩).getD undef)).toNat) ?_ ?_
      · refine ⟨_, _, _, _, _, _, _, [], 0, 0, 0, 61, [], rfl, ho0, ha0, he0, Nat.zero_le _, Nat.zero_le _, by omega, Lib.hid rfl, Nat.le_refl _, But.refl _ _, trivial, Nat.zero_le _⟩
      rintro a wr ⟨u94, u95, u96, u97, u98, u99, u100, ds, i, j, top, f, pre, rfl, ho1, ha1, he1, hi, hj, hf, Hit, hpi, hBt, hM, htop⟩
      have hnl : ¬ S (w2.heap.size + 1) := by rw [HS.out]; omega
      have c1 := ho1.cell 0
      have c2 := ha1.cell 0
      have c3 := he1.cell 0
      have hlr := hl0.but hBt hnl
      simp only [List.getElem?_toArray, List.getElem?_cons_zero] at c1 c2 c3
      have c4 : wr.cell? ⟨w2.heap.size + 1, i * 61 + j, none⟩ = some (.int .i64 (mo ((bl s).drop i) ((bl t).drop j))) := by
        rw [hlr.cell]; exact Hrow.out.row _ _ (by omega) (by omega) (by omega)
      have hmle := (mo_le ((bl s).drop i) ((bl t).drop j)).1
      rw [List.length_drop, Hb1.out] at hmle
      obtain ⟨M0, hM0⟩ : ∃ M0, M0 = mo ((bl s).drop i) ((bl t).drop j) := ⟨_, rfl⟩
      rw [← hM0] at c4 hmle
      have HM0 := Lib.hid hM0
      clear hM0 hlr
      have j1 : (i : Int) < 61 := by omega
      have j2 : (j : Int) < 61 := by omega
      have Hc0 := Lib.hid c2
      by_cases hz : M0 = 0
      · subst hz
        have hab : pre = lg (bl s) (bl t) 61 0 0 := by
          rw [Hit.out]
          cases f with
          | zero => rw [lg, List.append_nil]
          | succ f => rw [lg, if_pos HM0.out.symm, List.append_nil]
        have Hab := Lib.hid hab
        clear hab
        go_wp2_with fail
        go_quiet (fail)
        have c1' : (wr.drewN nq).cell? ⟨b13, 0, none⟩ = some (.string (str pre)) := c1
        go_wp2
        refine leaves_marks (v := .tuple #[.string (str pre), .int .i64 0]) ds _ top (hM.drewN nq) (fun w' => results_tmp2 (t := 4) (u := 5) rfl _ _ _) (fun w' hb => ⟨?_, ?_⟩)
        · rw [Hab.out]
        · have h1 := hBt.below hB0.size (fun k hk => by
            rw [HS.out] at hk
            have := hlt2
            omega)
          exact (hB0.trans ((below_drewN h1 nq))).trans (hb.mono hB0.size)
      · have hz' : (0 : Int) < (M0 : Int) := by omega
        go_wp2_with fail
        go_quiet (fail)
        have ho1 := ho1.drewN nq
        have ha1 := ha1.drewN nq
        have he1 := he1.drewN nq
        have hBt := hBt.drewN nq
        have hM := hM.drewN nq
        have htop : top ≤ (wr.drewN nq).heap.size := htop
        clear c1 c2 c3 c4 j1 j2
        generalize wr.drewN nq = wr at ho1 ha1 he1 hBt hM htop ⊢
        go_wp2_with fail
        refine (callsIn_wide.1 (alphabet_in Fence.wide 8 trivial rfl 4 _)).mono ?_
        rintro e w2' ⟨rfl, rfl⟩
        have ho2 := ho1.alloc (.cells #[.int .i64 4] 3)
        have ha2 := ha1.alloc (.cells #[.int .i64 4] 3)
        have he2 := he1.alloc (.cells #[.int .i64 4] 3)
        have hBt2 := hBt.alloc (.cells #[.int .i64 4] 3)
        have hM2 := hM.alloc (.cells #[.int .i64 4] 3)
        have hb2 := Blk.new wr #[.int .i64 4] 3
        have hsz : (wr.alloc (.cells #[.int .i64 4] 3)).heap.size = wr.heap.size + 1 := by simp
        have ho1lt := ho1.lt
        have ha1lt := ha1.lt
        have he1lt := he1.lt
        have Hc2 := Lib.hid (ha1.cell 0)
        generalize wr.alloc (.cells #[.int .i64 4] 3) = W2 at ho2 ha2 he2 hBt2 hM2 hb2 hsz ⊢
        clear ho1 ha1 he1 hBt hM
        go_wp2
        have c4 := hb2.cell 0
        simp only [List.getElem?_toArray, List.getElem?_cons_zero] at c4
        obtain ⟨R, hR⟩ : ∃ R : Nat → Prop, R = fun b => b = b13 ∨ b = b13 + 1 ∨ b = b13 + 2 := ⟨_, rfl⟩
        have HR := Lib.hid hR
        clear hR
        refine (wpIn_wide (n := 9)).1 ?_
        refine wpIn_rangeFunc_ownG (F := Fence.wide) (n := 9) rfl (by omega) (gf := 64) (lb := #[.pointer (some ⟨wr.heap.size, 0, none⟩)]) rfl trivial (enters_of Try.func64 (by kernel_rfl) rfl)
          (alpha_stops Fence.wide 8 trivial rfl (by omega) wr.heap.size 4 (by omega) W2 (by omega) c4) (fun _ _ => trivial) (fun _ _ _ _ _ _ _ _ => trivial) (Below.refl _ _) (fun _ => rfl)
          (fun pr W => (∀ c ∈ pr, lgP (bl s) (bl t) i j c.val = false) ∧ LgS b13 R W2 W i j (str pre))
          (fun c pr W => c = .exit 6 ∧ ∃ (p : List (Fin 4)) (x : Fin 4), pr = p ++ [x] ∧ (∀ c ∈ p, lgP (bl s) (bl t) i j c.val = false) ∧ lgP (bl s) (bl t) i j x.val = true ∧
            LgS b13 R W2 W (nx (bl s) x.val i + 1) (nx (bl t) x.val j + 1) (str (pre ++ [97 + x.val])))
          (fun s A B row hs hg hr => ⟨hs.1, hs.2.turn hg hr⟩)
          (fun c s A B row hs hg hr => by obtain ⟨hc, p, x, e, h1, h2, h3⟩ := hs; exact ⟨hc, p, x, e, h1, h2, h3.turn hg hr⟩)
          ⟨by simp, ho2, ha2, he2, But.refl _ _⟩
          (fun x => { tmps := #[Value.string s, Value.string t, undef, undef, Value.string { data := #[] }, Value.int IntKind.i64 0, Value.pointer (some ⟨w1.heap.size, 0, none⟩), Value.bool true, Value.pointer (some ⟨w2.heap.size, 0, none⟩), Value.bool true, Value.pointer (some ⟨w2.heap.size + 1, 0, none⟩), Value.int IntKind.i64 (-1), u12, Value.pointer (some ⟨b13, 0, none⟩), Value.pointer (some ⟨b13 + 1, 0, none⟩), Value.pointer (some ⟨b13 + 2, 0, none⟩), Value.int IntKind.i64 (x.val : Int), Value.string (letter x.val), undef, undef, undef, undef, Value.tuple #[Value.pointer (some ⟨w.heap.size, 0, none⟩), Value.bool true], Value.string s, Value.tuple #[Value.pointer (some ⟨w.heap.size, 0, none⟩), Value.bool true], Value.pointer (some ⟨w.heap.size, 0, none⟩), Value.bool true, Value.tuple #[Value.pointer (some ⟨w1.heap.size + 1, 0, none⟩), Value.bool true], Value.string t, Value.tuple #[Value.pointer (some ⟨w1.heap.size + 1, 0, none⟩), Value.bool true], Value.pointer (some ⟨w1.heap.size + 1, 0, none⟩), Value.bool true, Value.bool true, Value.bool false, Value.bool false, Value.bool true, Value.bool false, Value.bool false, Value.string s, Value.int IntKind.i64 ↑s.size, Value.int IntKind.i64 (↑s.size - 1), Value.int IntKind.i64 (-1), Value.bool false, u43, u44, u45, u46, u47, u48, u49, u50, u51, u52, u53, u54, u55, u56, u57, u58, u59, u60, u61, u62, u63, u64, u65, u66, u67, u68, u69, u70, u71, u72, u73, u74, u75, u76, u77, u78, u79, u80, u81, u82, u83, u84, u85, u86, u87, u88, u89, u90, u91, u92, u93, Value.int IntKind.i64 ↑i, Value.int IntKind.i64 ↑j, Value.pointer (some ⟨w2.heap.size + 1, i * 61, none⟩), Value.pointer (some ⟨w2.heap.size + 1, i * 61 + j, none⟩), Value.int IntKind.i64 ↑M0, Value.bool true, Value.func (Fn.func 64) #[] #[Value.pointer (some ⟨wr.heap.size, 0, none⟩)], Value.int IntKind.i64 (x.val : Int), Value.string (letter x.val), undef, undef, undef, undef, undef, undef, undef, undef, undef, undef, undef, undef, undef, undef, undef, undef, undef, undef, undef, undef, undef, undef, undef, undef, undef, undef, undef, undef, undef, undef, undef, undef, undef, undef, undef, undef, undef, undef], defers := [] }) ?assign ?body ?done ?stop
        case assign =>
          intro l x W K hK
          gi_wp2
          exact hK
        case body =>
          rintro l pr x W ⟨hsm, hI⟩ _
          have hbt := hBt2.trans (hI.but.mono (S' := S) (fun b hb => by rw [HR.out] at hb; rw [HS.out]; omega))
          have hx4 := x.isLt
          have hn1 : ¬ S w1.heap.size := by rw [HS.out]; omega
          have hn2 : ¬ S w2.heap.size := by rw [HS.out]; omega
          have hn3 : ¬ S (w2.heap.size + 1) := by rw [HS.out]; omega
          have hn4 : ¬ S w.heap.size := by rw [HS.out]; omega
          have hn5 : ¬ S (w1.heap.size + 1) := by rw [HS.out]; omega
          have cp := (hp0.but hbt hn1).cell 0
          have cq := (hq0.but hbt hn2).cell 0
          have co := hI.ho.cell 0
          have ca := hI.ha.cell 0
          have ce := hI.he.cell 0
          have fo := hI.ho.frozen 0
          have fa := hI.ha.frozen 0
          have fe := hI.he.frozen 0
          have hlW := hl0.but hbt hn3
          have hxW := hx0.but hbt hn4
          have hyW := hy0.but hbt hn5
          simp only [List.getElem?_toArray, List.getElem?_cons_zero] at cp cq co ca ce
          clear hn1 hn2 hn3 hn4 hn5
          have hge1 := nx_ge (bl s) x.val i
          have hge2 := nx_ge (bl t) x.val j
          have ck : W.cell? ⟨w2.heap.size + 1, i * 61 + j, none⟩ = some (.int .i64 M0) := by
            rw [hlW.cell, HM0.out]; exact Hrow.out.row _ _ (by omega) (by omega) (by omega)
          have j1 : (i : Int) < 61 := by omega
          have j2 : (j : Int) < 61 := by omega
          by_cases h1 : nx (bl s) x.val i < s.size
          · by_cases h2 : nx (bl t) x.val j < t.size
            · obtain ⟨A, hA⟩ : ∃ A, A = mo ((bl s).drop (nx (bl s) x.val i + 1)) ((bl t).drop (nx (bl t) x.val j + 1)) := ⟨_, rfl⟩
              have cl : W.cell? ⟨w2.heap.size + 1, (nx (bl s) x.val i + 1) * 61 + (nx (bl t) x.val j + 1), none⟩ = some (.int .i64 A) := by
                rw [hlW.cell, hA]; exact Hrow.out.row _ _ (by omega) (by omega) (by omega)
              have hl1 := (mo_le ((bl s).drop (nx (bl s) x.val i + 1)) ((bl t).drop (nx (bl t) x.val j + 1))).1
              rw [List.length_drop, Hb1.out, ← hA] at hl1
              have HA := Lib.hid hA
              clear hA
              have hlg : lgP (bl s) (bl t) i j x.val = decide (1 + A = M0) := by
                unfold lgP
                rw [Hb1.out, Hb2.out, decide_eq_true h1, decide_eq_true h2, HA.out, HM0.out]
                rw [Bool.eq_iff_iff]; simp
              have Hlg := Lib.hid hlg
              clear hlg
              have e1 : IntKind.i64.wrap (1 + (A : Int)) = 1 + (A : Int) := IntWalk.i64_in _ (by omega)
              have e2 : ((nx (bl s) x.val i : Int) + 1).toNat = nx (bl s) x.val i + 1 := by omega
              have e3 : ((nx (bl t) x.val j : Int) + 1).toNat = nx (bl t) x.val j + 1 := by omega
              have j3 : (0 : Int) ≤ (nx (bl s) x.val i : Int) + 1 := by omega
              have j4 : (nx (bl s) x.val i : Int) + 1 < 61 := by omega
              have j5 : (0 : Int) ≤ (nx (bl t) x.val j : Int) + 1 := by omega
              have j6 : (nx (bl t) x.val j : Int) + 1 < 61 := by omega
              gi_wp2_with (first | (refine round_call (after_any _ s _ _ i x.val true _ hxW hs60 rfl rfl hi hx4 (by simpa using h1)) ?_; rintro e w' ⟨rfl, nq, rfl⟩; have hyW2 := hyW.below (below_drewN (Below.refl _ _) nq)) | (refine round_call (after_any _ t _ _ j x.val true _ hyW2 ht60 rfl rfl hj hx4 (by simpa using h2)) ?_; rintro e w' ⟨rfl, nq2, rfl⟩))
              refine wpIn_region_quiet_round (by kernel_rfl) (by kernel_rfl) (by kernel_rfl) ?_
              repeat (gi_big_quiet_step (fail))
              refine wpQuietIn_nil ?_
              rintro _ ⟨nq3, rfl⟩
              have hk2 := ((keepsO_drewN W (nq + nq2)).trans (keepsO_drewN _ nq3))
              have hI2 : LgS b13 R W2 ((W.drewN (nq + nq2)).drewN nq3) i j (str pre) := ⟨(hI.ho.drewN _).drewN _, (hI.ha.drewN _).drewN _, (hI.he.drewN _).drewN _, (hI.but.drewN _).drewN _⟩
              have co := hI2.ho.cell 0
              have ca := hI2.ha.cell 0
              have ce := hI2.he.cell 0
              have fo := hI2.ho.frozen 0
              have fa := hI2.ha.frozen 0
              have fe := hI2.he.frozen 0
              simp only [List.getElem?_toArray, List.getElem?_cons_zero] at co ca ce
              generalize (W.drewN (nq + nq2)).drewN nq3 = W4 at hk2 hI2 co ca ce fo fa fe ⊢
              clear e1 e2 e3 hyW2
              by_cases hq : 1 + (A : Int) = (M0 : Int)
              · iterate 6 gi_step
                have hps : (str pre).size + (letter x.val).size ≤ 9223372036854775807 := by
                  rw [letter_eq ⟨x.val, by omega⟩, str_size, str_size]; simp; omega
                gi_wp2
                refine ⟨(((hk2.trans (KeepsOthers.setCell _ _ _)).trans (KeepsOthers.setCell _ _ _)).trans (KeepsOthers.setCell _ _ _)).from _, rfl, pr, x, rfl, hsm, by rw [Hlg.out]; exact decide_eq_true (by omega), ?_, ?_, ?_, ?_⟩
                · exact (((hI2.ho.set1 _).other _ (by simp) _).other _ (by simp) _).as (by rw [letter_eq ⟨x.val, by omega⟩, str_append])
                · exact (((hI2.ha.other _ (by simp) _).set1 _).other _ (by simp) _).as (one_int (by omega))
                · exact (((hI2.he.other _ (by simp) _).other _ (by simp) _).set1 _).as (one_int (by omega))
                · exact ((hI2.but.set (.inl (by rw [HR.out]; simp)) _).set (.inl (by rw [HR.out]; simp)) _).set (.inl (by rw [HR.out]; simp)) _
              · gi_wp2
                refine ⟨hk2.from _, trivial, ?_, hI2.ho, hI2.ha, hI2.he, hI2.but⟩
                intro c hc
                rcases List.mem_append.1 hc with hc | hc
                · exact hsm c hc
                · obtain rfl := List.mem_singleton.1 hc
                  rw [Hlg.out]; exact decide_eq_false (by omega)
            · gi_wp2_with (first | (refine round_call (after_any _ s _ _ i x.val true _ hxW hs60 rfl rfl hi hx4 (by simpa using h1)) ?_; rintro e w' ⟨rfl, nq, rfl⟩; have hyW2 := hyW.below (below_drewN (Below.refl _ _) nq)) | (refine round_call (after_any _ t _ _ j x.val false _ hyW2 ht60 rfl rfl hj hx4 (by simpa using h2)) ?_; rintro e w' ⟨rfl, nq2, rfl⟩))
              refine wpIn_region_quiet_round (by kernel_rfl) (by kernel_rfl) (by kernel_rfl) ?_
              repeat (gi_big_quiet_step (fail))
              refine wpQuietIn_nil ?_
              rintro _ ⟨nq3, rfl⟩
              gi_wp2
              refine ⟨((keepsO_drewN W (nq + nq2)).trans (keepsO_drewN _ nq3)).from _, trivial, ?_, (hI.ho.drewN (nq + nq2)).drewN nq3, (hI.ha.drewN (nq + nq2)).drewN nq3, (hI.he.drewN (nq + nq2)).drewN nq3, (hI.but.drewN (nq + nq2)).drewN nq3⟩
              intro c hc
              rcases List.mem_append.1 hc with hc | hc
              · exact hsm c hc
              · obtain rfl := List.mem_singleton.1 hc
                unfold lgP
                rw [Hb1.out, Hb2.out]
                simp [h1, h2]
          · by_cases h2 : nx (bl t) x.val j < t.size
            · gi_wp2_with (first | (refine round_call (after_any _ s _ _ i x.val false _ hxW hs60 rfl rfl hi hx4 (by simpa using h1)) ?_; rintro e w' ⟨rfl, nq, rfl⟩; have hyW2 := hyW.below (below_drewN (Below.refl _ _) nq)) | (refine round_call (after_any _ t _ _ j x.val true _ hyW2 ht60 rfl rfl hj hx4 (by simpa using h2)) ?_; rintro e w' ⟨rfl, nq2, rfl⟩))
              refine wpIn_region_quiet_round (by kernel_rfl) (by kernel_rfl) (by kernel_rfl) ?_
              repeat (gi_big_quiet_step (fail))
              refine wpQuietIn_nil ?_
              rintro _ ⟨nq3, rfl⟩
              gi_wp2
              refine ⟨((keepsO_drewN W (nq + nq2)).trans (keepsO_drewN _ nq3)).from _, trivial, ?_, (hI.ho.drewN (nq + nq2)).drewN nq3, (hI.ha.drewN (nq + nq2)).drewN nq3, (hI.he.drewN (nq + nq2)).drewN nq3, (hI.but.drewN (nq + nq2)).drewN nq3⟩
              intro c hc
              rcases List.mem_append.1 hc with hc | hc
              · exact hsm c hc
              · obtain rfl := List.mem_singleton.1 hc
                unfold lgP
                rw [Hb1.out, Hb2.out]
                simp [h1, h2]
            · gi_wp2_with (first | (refine round_call (after_any _ s _ _ i x.val false _ hxW hs60 rfl rfl hi hx4 (by simpa using h1)) ?_; rintro e w' ⟨rfl, nq, rfl⟩; have hyW2 := hyW.below (below_drewN (Below.refl _ _) nq)) | (refine round_call (after_any _ t _ _ j x.val false _ hyW2 ht60 rfl rfl hj hx4 (by simpa using h2)) ?_; rintro e w' ⟨rfl, nq2, rfl⟩))
              refine wpIn_region_quiet_round (by kernel_rfl) (by kernel_rfl) (by kernel_rfl) ?_
              repeat (gi_big_quiet_step (fail))
              refine wpQuietIn_nil ?_
              rintro _ ⟨nq3, rfl⟩
              gi_wp2
              refine ⟨((keepsO_drewN W (nq + nq2)).trans (keepsO_drewN _ nq3)).from _, trivial, ?_, (hI.ho.drewN (nq + nq2)).drewN nq3, (hI.ha.drewN (nq + nq2)).drewN nq3, (hI.he.drewN (nq + nq2)).drewN nq3, (hI.but.drewN (nq + nq2)).drewN nq3⟩
              intro c hc
              rcases List.mem_append.1 hc with hc | hc
              · exact hsm c hc
              · obtain rfl := List.mem_singleton.1 hc
                unfold lgP
                rw [Hb1.out, Hb2.out]
                simp [h1, h2]
        case done =>
          rintro D xs W _ rfl ⟨hsm, _⟩ _
          obtain ⟨c, hc, _, he⟩ := lg_find (bl s) (bl t) (by intro y hy; obtain ⟨n, hn, rfl⟩ := List.getElem_of_mem hy; rw [Hb1.out] at hn; rw [bl_get s n hn]; have := Hsl.out n hn; omega) i j (by rw [Hb1.out]; exact hi) (by rw [Hb2.out]; exact hj) (by rw [← HM0.out]; exact hz)
          rw [hsm ⟨c, hc⟩ (List.mem_finRange _)] at he
          cases he
        case stop =>
          rintro D c pr W hD hpre ⟨rfl, p, x, rfl, hs1, hs2, hI⟩ hK
          have hp := prefix_snoc hpre
          have hx4 := x.isLt
          have hle := lgP_true hs2
          rw [Hb1.out, Hb2.out] at hle
          have hle1 := hle.1
          have hle2 := hle.2.1
          have hge := nx_ge (bl s) x.val i
          have hDlt : D < W.heap.size := (Array.getElem?_eq_some_iff.1 hK).1
          have hMW := hM2.but hI.but (by omega) (fun D hD hs => by
            rw [HR.out] at hs
            rcases hs with rfl | rfl | rfl
            · rw [ho2.out] at hD; cases hD
            · rw [ha2.out] at hD; cases hD
            · rw [he2.out] at hD; cases hD)
          have hbt := hBt2.trans (hI.but.mono (S' := S) (fun b hb => by rw [HR.out] at hb; rw [HS.out]; omega))
          have hs0 := hBt2.size
          have cW := hI.ha.cell 0
          simp only [List.getElem?_toArray, List.getElem?_cons_zero] at cW
          have hfind : (List.range 4).find? (lgP (bl s) (bl t) i j) = some x.val := by
            rw [List.find?_range_eq_some]
            refine ⟨hs2, by simp, fun k hk => ?_⟩
            have := hs1 ⟨k, by omega⟩ (by rw [hp]; exact mem_take_fin _ _ hk)
            simpa using this
          obtain ⟨f, rfl⟩ : ∃ g, f = g + 1 := ⟨f - 1, by omega⟩
          have hab : lg (bl s) (bl t) 61 0 0 = (pre ++ [97 + x.val]) ++ lg (bl s) (bl t) f (nx (bl s) x.val i + 1) (nx (bl t) x.val j + 1) := by
            rw [Hit.out, lg, if_neg (by rw [← HM0.out]; exact hz), hfind]; simp
          have Hab := Lib.hid hab
          have HcW := Lib.hid cW
          clear hab hfind hs1 hs2 hp cW hle
          gi_wp2
          refine ⟨⟨_, _, _, _, _, _, _, _, nx (bl s) x.val i + 1, nx (bl t) x.val j + 1, D + 1, f, pre ++ [97 + x.val], rfl, hI.ho, hI.ha, hI.he, by omega, by omega, by omega, Hab, by simp; omega, hbt, ?_, hDlt⟩, ?_⟩
          · exact ⟨D, rfl, by omega, by omega, hK, hMW.up (by omega)⟩
          · rw [HcW.out, Hc0.out]; simp [intOf]; omega
    | succ i =>
      obtain rfl : q = (i : Int) := by omega
      clear hq
      go_wp2
      go_loopw [12] (fun v wr => ∃ (q : Int) (n : Nat), v = .int .i64 q ∧ q = n - 1 ∧ n ≤ t.size ∧ Below W0.heap.size W0 wr ∧ ∃ cs, Blk wr (w2.heap.size + 1) cs 86 ∧ LT (bl s) (bl t) (fun r c => i + 1 ≤ r ∨ (r = i ∧ n ≤ c) ∨ t.size ≤ c) cs) (fun v _ => (intOf v + 1).toNat)
      case atStart =>
        exact ⟨_, t.size, rfl, by omega, Nat.le_refl _, hB1, _, hcs, Hrow.out.mono (fun r c h => by omega)⟩
      case round =>
        clear hB1 hcs Hrow
        obtain ⟨q, n, rfl, hq, hn, hB1, cs, hcs, hrow⟩ := hrel
        cases n with
        | zero =>
          obtain rfl : q = -1 := by omega
          clear hq
          have Hrow := Lib.hid hrow
          clear hrow
          go_wp2
          go_roundw
          case rel => exact ⟨(i : Int) - 1, i, by first | rfl | go_num, by omega, by omega, hB1, _, hcs, Hrow.out.mono (fun r c h => by omega)⟩
          case measure => simp [intOf]
        | succ j =>
          obtain rfl : q = (j : Int) := by omega
          clear hq
          have c1 : wr.cell? ⟨w2.heap.size + 1, (i + 1) * 61 + j, none⟩ = some (.int .i64 (mo ((bl s).drop (i + 1)) ((bl t).drop j))) := by
            rw [hcs.cell]; exact hrow.row _ _ (by omega) (by omega) (by omega)
          have c2 : wr.cell? ⟨w2.heap.size + 1, i * 61 + (j + 1), none⟩ = some (.int .i64 (mo ((bl s).drop i) ((bl t).drop (j + 1)))) := by
            rw [hcs.cell]; exact hrow.row _ _ (by omega) (by omega) (by omega)
          have hf := hcs.frozen
          have c3 : wr.cell? ⟨w2.heap.size + 1, (i + 1) * 61 + (j + 1), none⟩ = some (.int .i64 (mo ((bl s).drop (i + 1)) ((bl t).drop (j + 1)))) := by
            rw [hcs.cell]; exact hrow.row _ _ (by omega) (by omega) (by omega)
          have Hrow := Lib.hid hrow
          clear hrow
          have l1 := (mo_le ((bl s).drop (i + 1)) ((bl t).drop j)).1
          have l2 := (mo_le ((bl s).drop i) ((bl t).drop (j + 1))).1
          have l3 := (mo_le ((bl s).drop (i + 1)) ((bl t).drop (j + 1))).1
          rw [List.length_drop, Hb1.out] at l1 l2 l3
          have hmc : mo ((bl s).drop i) ((bl t).drop j) = if s[i].toNat = t[j].toNat then max (max (mo ((bl s).drop (i + 1)) ((bl t).drop j)) (mo ((bl s).drop i) ((bl t).drop (j + 1)))) (1 + mo ((bl s).drop (i + 1)) ((bl t).drop (j + 1))) else max (mo ((bl s).drop (i + 1)) ((bl t).drop j)) (mo ((bl s).drop i) ((bl t).drop (j + 1))) := by
            have e1 : (bl s).drop i = s[i].toNat :: (bl s).drop (i + 1) := by rw [drop_at (by rw [bl_len]; omega), bl_get s i (by omega)]
            have e2 : (bl t).drop j = t[j].toNat :: (bl t).drop (j + 1) := by rw [drop_at (by rw [bl_len]; omega), bl_get t j (by omega)]
            rw [e1, e2, mo_cons]
          generalize mo ((bl s).drop (i + 1)) ((bl t).drop j) = p1 at c1 l1 hmc
          generalize mo ((bl s).drop i) ((bl t).drop (j + 1)) = p2 at c2 l2 hmc
          generalize mo ((bl s).drop (i + 1)) ((bl t).drop (j + 1)) = p3 at c3 l3 hmc
          have Hmc := Lib.hid hmc
          clear hmc
          have hf0 : wr.frozen? ⟨w2.heap.size + 1, i * 61 + j, none⟩ = false := hcs.frozen _
          obtain ⟨z, hz⟩ : ∃ z, cs[i * 61 + j]? = some z := ⟨_, Array.getElem?_eq_getElem (by rw [Hrow.out.size]; omega)⟩
          have c0 : wr.cell? ⟨w2.heap.size + 1, i * 61 + j, none⟩ = some z := by rw [hcs.cell]; exact hz
          have Hz := Lib.hid hz
          clear hz
          have e1 : IntKind.i64.wrap ((i : Int) + 1) = (i : Int) + 1 := IntWalk.i64_in _ (by omega)
          have e2 : IntKind.i64.wrap ((j : Int) + 1) = (j : Int) + 1 := IntWalk.i64_in _ (by omega)
          have e3 : ((i : Int) + 1).toNat = i + 1 := by omega
          have e4 : ((j : Int) + 1).toNat = j + 1 := by omega
          have j1 : (0 : Int) ≤ (i : Int) + 1 := by omega
          have j2 : (i : Int) + 1 < 61 := by omega
          have j3 : (0 : Int) ≤ (j : Int) + 1 := by omega
          have j4 : (j : Int) + 1 < 61 := by omega
          have j5 : (i : Int) < 61 := by omega
          have j6 : (j : Int) < 61 := by omega
          have q1 : i < s.size := by omega
          have q2 : j < t.size := by omega
          have q3 : (0 : Int) ≤ (i : Int) := by omega
          have q4 : (0 : Int) ≤ (j : Int) := by omega
          have q5 : (i : Int) < (s.size : Int) := by omega
          have q6 : (j : Int) < (t.size : Int) := by omega
          by_cases hlt : p1 < p2
          · have hlt' : (p1 : Int) < (p2 : Int) := by omega
            go_wp2_with fail
            go_still_tail 17, (by kernel_rfl)
            change wpList _ _ _ _ _ wr.drew
            go_wp2_with fail
            have hcs1 := (hcs.set (i * 61 + j) (.int .i64 p2)).drew
            have hB1' := (hB1.setCell (p := ⟨w2.heap.size + 1, i * 61 + j, none⟩) (by simp [hz0]) (.int .i64 p2)).drew
            have c4 : (wr.setCell ⟨w2.heap.size + 1, i * 61 + j, none⟩ (.int .i64 p2)).drew.cell? ⟨w2.heap.size + 1, i * 61 + j, none⟩ = some (.int .i64 p2) := by
              rw [hcs1.cell, Array.getElem?_setIfInBounds_self, if_pos (by rw [Hrow.out.size]; omega)]
            have c5 : (wr.setCell ⟨w2.heap.size + 1, i * 61 + j, none⟩ (.int .i64 p2)).drew.cell? ⟨w2.heap.size + 1, (i + 1) * 61 + (j + 1), none⟩ = some (.int .i64 p3) := by
              rw [hcs1.cell, Array.getElem?_setIfInBounds_ne (by omega), ← hcs.cell]; exact c3
            have f4 := hcs1.frozen (i * 61 + j)
            generalize (wr.setCell ⟨w2.heap.size + 1, i * 61 + j, none⟩ (.int .i64 p2)).drew = wt at hcs1 hB1' c4 c5 f4 ⊢
            clear hcs hB1 c0 c1 c2 c3 hf0
            go_quiet (fail)
            clear e1 e2 e3 e4 j1 j2 j3 j4 j5 j6
            have hcs2 := hcs1.drewN nq
            have hB2 := below_drewN hB1' nq
            have c6 : (wt.drewN nq).cell? ⟨w2.heap.size + 1, i * 61 + j, none⟩ = some (.int .i64 p2) := c4
            have c7 : (wt.drewN nq).cell? ⟨w2.heap.size + 1, (i + 1) * 61 + (j + 1), none⟩ = some (.int .i64 p3) := c5
            have f6 : (wt.drewN nq).frozen? ⟨w2.heap.size + 1, i * 61 + j, none⟩ = false := f4
            generalize wt.drewN nq = wv at hcs2 hB2 c6 c7 f6 ⊢
            clear hcs1 hB1' c4 c5 f4
            by_cases heq : s[i].toNat = t[j].toNat
            · have hne : ((s[i].toNat : Int) == (t[j].toNat : Int)) = true := by rw [heq]; exact beq_self_eq_true _
              have Heq := Lib.hid heq
              clear heq
              have e1 : IntKind.i64.wrap ((i : Int) + 1) = (i : Int) + 1 := IntWalk.i64_in _ (by omega)
              have e2 : IntKind.i64.wrap ((j : Int) + 1) = (j : Int) + 1 := IntWalk.i64_in _ (by omega)
              have e3 : ((i : Int) + 1).toNat = i + 1 := by omega
              have e4 : ((j : Int) + 1).toNat = j + 1 := by omega
              have e5 : IntKind.i64.wrap (1 + (p3 : Int)) = 1 + (p3 : Int) := IntWalk.i64_in _ (by omega)
              have j1 : (0 : Int) ≤ (i : Int) + 1 := by omega
              have j2 : (i : Int) + 1 < 61 := by omega
              have j3 : (0 : Int) ≤ (j : Int) + 1 := by omega
              have j4 : (j : Int) + 1 < 61 := by omega
              have j5 : (i : Int) < 61 := by omega
              have j6 : (j : Int) < 61 := by omega
              by_cases hl2 : p2 < 1 + p3
              · have hl2' : (p2 : Int) < 1 + (p3 : Int) := by omega
                go_wp2_with fail
                go_still_tail 18, (by kernel_rfl)
                change wpList _ _ _ _ _ wv.drew
                clear e1 e2 e3 e4 e5 j1 j2 j3 j4 j5 j6
                go_wp2_with fail
                go_roundw
                case rel =>
                  refine ⟨(j : Int) - 1, j, by first | rfl | go_num, by omega, by omega, (hB2.setCell (p := ⟨w2.heap.size + 1, i * 61 + j, none⟩) (by simp [hz0]) _).drew, _, (hcs2.set _ _).drew, (((Hrow.out.set (Q := fun r c => (i + 1 ≤ r ∨ (r = i ∧ j + 1 ≤ c) ∨ t.size ≤ c) ∧ (r ≠ i ∨ c ≠ j)) i j (by omega) (by omega) (.int .i64 p2) (fun h => by omega) (fun r c h => by omega)).set i j (by omega) (by omega) _ (fun _ => vi_eq (by rw [Hmc.out, if_pos Heq.out]; omega)) (fun r c h => by omega)))⟩
                case measure => simp [intOf]
              · have hl2' : ¬ (p2 : Int) < 1 + (p3 : Int) := by omega
                go_wp2_with fail
                go_still_tail 18, (by kernel_rfl)
                change wpList _ _ _ _ _ wv.drew
                clear e1 e2 e3 e4 e5 j1 j2 j3 j4 j5 j6
                go_wp2_with fail
                go_roundw
                case rel =>
                  refine ⟨(j : Int) - 1, j, by first | rfl | go_num, by omega, by omega, (hB2.setCell (p := ⟨w2.heap.size + 1, i * 61 + j, none⟩) (by simp [hz0]) _).drew, _, (hcs2.set _ _).drew, (((Hrow.out.set (Q := fun r c => (i + 1 ≤ r ∨ (r = i ∧ j + 1 ≤ c) ∨ t.size ≤ c) ∧ (r ≠ i ∨ c ≠ j)) i j (by omega) (by omega) (.int .i64 p2) (fun h => by omega) (fun r c h => by omega)).set i j (by omega) (by omega) _ (fun _ => vi_eq (by rw [Hmc.out, if_pos Heq.out]; omega)) (fun r c h => by omega)))⟩
                case measure => simp [intOf]
            · have Heq := Lib.hid heq
              have hne : ((s[i].toNat : Int) == (t[j].toNat : Int)) = false := by simp; omega
              clear heq
              go_wp2_with fail
              go_roundw
              case rel =>
                refine ⟨(j : Int) - 1, j, by first | rfl | go_num, by omega, by omega, hB2, _, hcs2, Hrow.out.set i j (by omega) (by omega) _ (fun _ => vi_eq (by rw [Hmc.out, if_neg Heq.out]; omega)) (fun r c h => by omega)⟩
              case measure => simp [intOf]
          · have hlt' : ¬ (p1 : Int) < (p2 : Int) := by omega
            go_wp2_with fail
            go_still_tail 17, (by kernel_rfl)
            change wpList _ _ _ _ _ wr.drew
            go_wp2_with fail
            have hcs1 := (hcs.set (i * 61 + j) (.int .i64 p1)).drew
            have hB1' := (hB1.setCell (p := ⟨w2.heap.size + 1, i * 61 + j, none⟩) (by simp [hz0]) (.int .i64 p1)).drew
            have c4 : (wr.setCell ⟨w2.heap.size + 1, i * 61 + j, none⟩ (.int .i64 p1)).drew.cell? ⟨w2.heap.size + 1, i * 61 + j, none⟩ = some (.int .i64 p1) := by
              rw [hcs1.cell, Array.getElem?_setIfInBounds_self, if_pos (by rw [Hrow.out.size]; omega)]
            have c5 : (wr.setCell ⟨w2.heap.size + 1, i * 61 + j, none⟩ (.int .i64 p1)).drew.cell? ⟨w2.heap.size + 1, (i + 1) * 61 + (j + 1), none⟩ = some (.int .i64 p3) := by
              rw [hcs1.cell, Array.getElem?_setIfInBounds_ne (by omega), ← hcs.cell]; exact c3
            have f4 := hcs1.frozen (i * 61 + j)
            generalize (wr.setCell ⟨w2.heap.size + 1, i * 61 + j, none⟩ (.int .i64 p1)).drew = wt at hcs1 hB1' c4 c5 f4 ⊢
            clear hcs hB1 c0 c1 c2 c3 hf0
            go_quiet (fail)
            clear e1 e2 e3 e4 j1 j2 j3 j4 j5 j6
            have hcs2 := hcs1.drewN nq
            have hB2 := below_drewN hB1' nq
            have c6 : (wt.drewN nq).cell? ⟨w2.heap.size + 1, i * 61 + j, none⟩ = some (.int .i64 p1) := c4
            have c7 : (wt.drewN nq).cell? ⟨w2.heap.size + 1, (i + 1) * 61 + (j + 1), none⟩ = some (.int .i64 p3) := c5
            have f6 : (wt.drewN nq).frozen? ⟨w2.heap.size + 1, i * 61 + j, none⟩ = false := f4
            generalize wt.drewN nq = wv at hcs2 hB2 c6 c7 f6 ⊢
            clear hcs1 hB1' c4 c5 f4
            by_cases heq : s[i].toNat = t[j].toNat
            · have hne : ((s[i].toNat : Int) == (t[j].toNat : Int)) = true := by rw [heq]; exact beq_self_eq_true _
              have Heq := Lib.hid heq
              clear heq
              have e1 : IntKind.i64.wrap ((i : Int) + 1) = (i : Int) + 1 := IntWalk.i64_in _ (by omega)
              have e2 : IntKind.i64.wrap ((j : Int) + 1) = (j : Int) + 1 := IntWalk.i64_in _ (by omega)
              have e3 : ((i : Int) + 1).toNat = i + 1 := by omega
              have e4 : ((j : Int) + 1).toNat = j + 1 := by omega
              have e5 : IntKind.i64.wrap (1 + (p3 : Int)) = 1 + (p3 : Int) := IntWalk.i64_in _ (by omega)
              have j1 : (0 : Int) ≤ (i : Int) + 1 := by omega
              have j2 : (i : Int) + 1 < 61 := by omega
              have j3 : (0 : Int) ≤ (j : Int) + 1 := by omega
              have j4 : (j : Int) + 1 < 61 := by omega
              have j5 : (i : Int) < 61 := by omega
              have j6 : (j : Int) < 61 := by omega
              by_cases hl2 : p1 < 1 + p3
              · have hl2' : (p1 : Int) < 1 + (p3 : Int) := by omega
                go_wp2_with fail
                go_still_tail 18, (by kernel_rfl)
                change wpList _ _ _ _ _ wv.drew
                clear e1 e2 e3 e4 e5 j1 j2 j3 j4 j5 j6
                go_wp2_with fail
                go_roundw
                case rel =>
                  refine ⟨(j : Int) - 1, j, by first | rfl | go_num, by omega, by omega, (hB2.setCell (p := ⟨w2.heap.size + 1, i * 61 + j, none⟩) (by simp [hz0]) _).drew, _, (hcs2.set _ _).drew, (((Hrow.out.set (Q := fun r c => (i + 1 ≤ r ∨ (r = i ∧ j + 1 ≤ c) ∨ t.size ≤ c) ∧ (r ≠ i ∨ c ≠ j)) i j (by omega) (by omega) (.int .i64 p1) (fun h => by omega) (fun r c h => by omega)).set i j (by omega) (by omega) _ (fun _ => vi_eq (by rw [Hmc.out, if_pos Heq.out]; omega)) (fun r c h => by omega)))⟩
                case measure => simp [intOf]
              · have hl2' : ¬ (p1 : Int) < 1 + (p3 : Int) := by omega
                go_wp2_with fail
                go_still_tail 18, (by kernel_rfl)
                change wpList _ _ _ _ _ wv.drew
                clear e1 e2 e3 e4 e5 j1 j2 j3 j4 j5 j6
                go_wp2_with fail
                go_roundw
                case rel =>
                  refine ⟨(j : Int) - 1, j, by first | rfl | go_num, by omega, by omega, (hB2.setCell (p := ⟨w2.heap.size + 1, i * 61 + j, none⟩) (by simp [hz0]) _).drew, _, (hcs2.set _ _).drew, (((Hrow.out.set (Q := fun r c => (i + 1 ≤ r ∨ (r = i ∧ j + 1 ≤ c) ∨ t.size ≤ c) ∧ (r ≠ i ∨ c ≠ j)) i j (by omega) (by omega) (.int .i64 p1) (fun h => by omega) (fun r c h => by omega)).set i j (by omega) (by omega) _ (fun _ => vi_eq (by rw [Hmc.out, if_pos Heq.out]; omega)) (fun r c h => by omega)))⟩
                case measure => simp [intOf]
            · have Heq := Lib.hid heq
              have hne : ((s[i].toNat : Int) == (t[j].toNat : Int)) = false := by simp; omega
              clear heq
              go_wp2_with fail
              go_roundw
              case rel =>
                refine ⟨(j : Int) - 1, j, by first | rfl | go_num, by omega, by omega, hB2, _, hcs2, Hrow.out.set i j (by omega) (by omega) _ (fun _ => vi_eq (by rw [Hmc.out, if_neg Heq.out]; omega)) (fun r c h => by omega)⟩
              case measure => simp [intOf]
end Go.Proofs.Ytfjbodaakmapdaa

/-! ## Long2 -/
namespace Go.Proofs.Ytfjbodaakmapdaa
open Go.RowKit Go.Shelf Th Kit Go.Proofs.YtfjbodaakmapdaaW.PrintWords

def Given.thread_Longest.f (u w : ByteArray) : Option (ByteArray × Int) :=
  some (if isW u = true then (if isW w = true then (str (lg (bl u) (bl w) 61 0 0), 0) else (⟨#[]⟩, 2)) else (⟨#[]⟩, 2))

theorem longest_no1 (u t : ByteArray) (w : World) (hu : isW u = false) : Calls Try.prog 31 #[.string u, .string t] w (ItemPost ⟨#[]⟩ 2 w) := by
  have Hu := Lib.hid hu
  clear hu
  go_enter Try.func31, Try.ntmps31
  go_wp2_with fail
  refine (newWord_no u _ Hu.out).mono ?_
  rintro e w1 ⟨rfl, hB1⟩
  go_wp2_with fail
  refine (newWord_any t _).mono ?_
  rintro e w2 ⟨hB2, ⟨_, rfl, _⟩ | ⟨_, rfl⟩⟩
  · have hB := hB1.trans (((below_new w1 _).trans (hB2.mono (by simp))).mono hB1.size)
    go_wp2
    go_ret2
    exact ⟨rfl, hB.trans ((below_new w2 _).mono hB.size)⟩
  · have hB := hB1.trans (((below_new w1 _).trans (hB2.mono (by simp))).mono hB1.size)
    go_wp2
    go_ret2
    exact ⟨rfl, hB.trans ((below_new w2 _).mono hB.size)⟩

theorem longest_no2 (u t : ByteArray) (w : World) (hu : isW u = true) (ht : isW t = false) : Calls Try.prog 31 #[.string u, .string t] w (ItemPost ⟨#[]⟩ 2 w) := by
  have Hu := Lib.hid hu
  have Ht := Lib.hid ht
  clear hu ht
  go_enter Try.func31, Try.ntmps31
  go_wp2_with fail
  refine (newWord_yes u _ Hu.out).mono ?_
  rintro e w1 ⟨rfl, _, hB1⟩
  go_wp2_with fail
  refine (newWord_no t _ Ht.out).mono ?_
  rintro e w2 ⟨rfl, hB2⟩
  have hB := hB1.trans (((below_new w1 _).trans (hB2.mono (by simp))).mono hB1.size)
  go_wp2
  go_ret2
  exact ⟨rfl, hB.trans ((below_new w2 _).mono hB.size)⟩

theorem Given.thread_Longest.calls (a0 a1 : ByteArray) (r1 : ByteArray) (r2 : Int) (w : World) (h : Given.thread_Longest.f a0 a1 = some (r1, r2)) :
    Calls Try.prog 31 #[.string a0, .string a1] w fun e w' => e = .returned (.tuple #[.string r1, .int .i64 r2]) ∧ Below w.heap.size w w' := by
  show Calls Try.prog 31 #[.string a0, .string a1] w (ItemPost r1 r2 w)
  unfold Given.thread_Longest.f at h
  cases hu : isW a0 with
  | false =>
    rw [hu] at h
    obtain ⟨rfl, rfl⟩ : (⟨#[]⟩ : ByteArray) = r1 ∧ (2 : Int) = r2 := by simpa using h
    exact longest_no1 a0 a1 w hu
  | true =>
    cases ht : isW a1 with
    | false =>
      rw [hu, ht] at h
      obtain ⟨rfl, rfl⟩ : (⟨#[]⟩ : ByteArray) = r1 ∧ (2 : Int) = r2 := by simpa using h
      exact longest_no2 a0 a1 w hu ht
    | true =>
      rw [hu, ht, if_pos rfl, if_pos rfl] at h
      obtain ⟨rfl, rfl⟩ := Prod.mk.inj (Option.some.inj h)
      exact longest_walk a0 a1 w hu ht
end Go.Proofs.Ytfjbodaakmapdaa
