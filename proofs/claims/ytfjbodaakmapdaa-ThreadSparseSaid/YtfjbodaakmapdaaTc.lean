/-
  Plain laws on subsequences, the contract of tame and that of thread.Longest.
-/
import Derived.Test.YtfjbodaakmapdaaTa
/-! ## Sub -/
namespace Go.Proofs.Ytfjbodaakmapdaa.Th

/-- A list of letters: the first k ones. -/
def Lt (k : Nat) (u : List Nat) : Prop := ∀ x ∈ u, 97 ≤ x ∧ x < 97 + k
theorem Lt.tail {k x : Nat} {u : List Nat} (h : Lt k (x :: u)) : Lt k u := fun y hy => h y (List.mem_cons_of_mem _ hy)
theorem Lt.head {k x : Nat} {u : List Nat} (h : Lt k (x :: u)) : 97 ≤ x ∧ x < 97 + k := h x List.mem_cons_self
theorem Lt.sub {k : Nat} {u v : List Nat} (h : Lt k v) (hs : u.Sublist v) : Lt k u := fun x hx => h x (hs.subset hx)
theorem Lt.drop {k : Nat} {u : List Nat} (h : Lt k u) (n : Nat) : Lt k (u.drop n) := h.sub (List.drop_sublist n u)
theorem Lt.append {k : Nat} {u v : List Nat} (h : Lt k u) (g : Lt k v) : Lt k (u ++ v) := fun x hx => (List.mem_append.1 hx).elim (h x) (g x)
theorem Lt.mono {j k : Nat} {u : List Nat} (h : Lt j u) (hj : j ≤ k) : Lt k u := fun x hx => by have := h x hx; omega

/-- A word is a subsequence exactly if its first letter is there and the rest is one of what follows. -/
theorem sub_cons (c : Nat) (u : List Nat) : ∀ l : List Nat, ((97 + c) :: u).Sublist l ↔ fnd c l < l.length ∧ u.Sublist (l.drop (fnd c l + 1))
  | [] => by simp
  | x :: l => by
    by_cases e : x = 97 + c
    · subst e
      simp [fnd]
    · rw [fnd, if_neg e]
      simp only [List.length_cons, List.drop_succ_cons]
      rw [List.sublist_cons_iff, sub_cons c u l]
      constructor
      · rintro (h | ⟨r, h, _⟩)
        · exact ⟨by omega, h.2⟩
        · exact absurd (List.cons.inj h).1.symm e
      · intro h
        exact .inl ⟨by omega, h.2⟩
theorem nx_lt (l : List Nat) (c i : Nat) (hi : i ≤ l.length) : nx l c i < l.length ↔ fnd c (l.drop i) < (l.drop i).length := by
  rw [List.length_drop]; unfold nx; omega
theorem nx_dropn (l : List Nat) (c i : Nat) : (l.drop i).drop (fnd c (l.drop i) + 1) = l.drop (nx l c i + 1) := by
  rw [List.drop_drop]; rfl
theorem sub_nx (l u : List Nat) (c i : Nat) (hi : i ≤ l.length) : ((97 + c) :: u).Sublist (l.drop i) ↔ nx l c i < l.length ∧ u.Sublist (l.drop (nx l c i + 1)) := by
  rw [sub_cons, nx_lt l c i hi, nx_dropn]

theorem wn_sub : ∀ (u l : List Nat) (i : Nat), Lt 4 u → i ≤ l.length → ((wn u l i).isSome = true ↔ u.Sublist (l.drop i))
  | [], _, _, _, _ => by simp [wn]
  | x :: u, l, i, hu, hi => by
    obtain ⟨c, rfl⟩ : ∃ c, x = 97 + c := ⟨x - 97, by have := hu.head; omega⟩
    rw [sub_nx l u c i hi, wn, show 97 + c - 97 = c by omega]
    by_cases h : nx l c i < l.length
    · rw [if_pos h, Option.isSome_map, wn_sub u l _ hu.tail (by omega)]
      simp [h]
    · rw [if_neg h]; simp [h]

/-! ### Ranks -/
def rk : List Nat → List Nat → Option Nat
  | [], _ => some 0
  | x :: u, l => if fnd (x - 97) l < l.length then (rk u (l.drop (fnd (x - 97) l + 1))).map (pc l (x - 97) + ·) else none

end Go.Proofs.Ytfjbodaakmapdaa.Th

/-! ## Tame -/
namespace Go.Proofs.Ytfjbodaakmapdaa
open Go.RowKit Th Kit Go.Proofs.YtfjbodaakmapdaaW.PrintWords Go.Proofs.YtfjbodaakmapdaaW.PrintLast Go.Proofs.YtfjbodaakmapdaaW.PrintMore

/-- A string's first bytes as letters. -/
def tml (s : ByteArray) (most k : Nat) : List Nat := ((bl s).take most).map fun x => 97 + x % k
theorem tml_len (s : ByteArray) (most k : Nat) : (tml s most k).length = min most s.size := by
  unfold tml; rw [List.length_map, List.length_take, bl_len]

def Given.tickinglaw03_tame.f (s : ByteArray) (most k : Int) : Option ByteArray :=
  if 0 ≤ most ∧ most ≤ 1000 ∧ 1 ≤ k ∧ k ≤ 4 then some (str (tml s most.toNat k.toNat)) else none

theorem info5 : (Try.prog.info? 5).map (fun i => (i.zero, i.size, i.bytes)) = some (some (.int .u8 0), 1, 1) := by kernel_rfl
theorem strOf_zs (l : List Nat) : strOfNums (zs l) = str l := by
  unfold strOfNums str zs
  rw [List.map_map]; rfl
theorem tml_snoc (s : ByteArray) (j k : Nat) (h : j < s.size) : tml s (j + 1) k = tml s j k ++ [97 + s[j].toNat % k] := by
  unfold tml
  rw [List.take_succ_eq_append_getElem (by rw [bl_len]; exact h), List.map_append, bl_get s j h]; rfl
theorem tml_all (s : ByteArray) (j k : Nat) (h : s.size ≤ j) : tml s j k = tml s s.size k := by
  unfold tml
  rw [List.take_of_length_le (by rw [bl_len]; exact h), List.take_of_length_le (by rw [bl_len]; exact Nat.le_refl _)]

set_option maxRecDepth 100000 in
set_option maxHeartbeats 4000000 in
theorem Given.tickinglaw03_tame.calls (a0 : ByteArray) (a1 a2 : Int) (r1 : ByteArray) (w : World) (h : Given.tickinglaw03_tame.f a0 a1 a2 = some r1) :
    Calls Try.prog 15 #[.string a0, .int .i64 a1, .int .i64 a2] w fun e w' => e = .returned (.string r1) ∧ Below w.heap.size w w' := by
  unfold Given.tickinglaw03_tame.f at h
  split at h
  · rename_i hb
    obtain ⟨h1, h2, h3, h4⟩ := hb
    obtain ⟨most, rfl⟩ : ∃ n : Nat, a1 = n := ⟨a1.toNat, by omega⟩
    obtain ⟨k, rfl⟩ : ∃ n : Nat, a2 = n := ⟨a2.toNat, by omega⟩
    rw [Int.toNat_natCast, Int.toNat_natCast] at h
    have Hr := Lib.hid (Option.some.inj h)
    clear h
    have hk0 : ((k : Int) == 0) = false := by simp; omega
    have hk1 : ((k : Int) != 0) = true := by simp; omega
    go_enter Try.func15, Try.ntmps15
    go_wp2
    go_loopw [7, 8] (fun v7 v8 wr => ∃ (j : Nat), v8 = .int .i64 j ∧ j ≤ a0.size ∧ j ≤ most ∧ Aside0 (Kd.R (Kd.int .u8) 5 wr w.heap.size (fun _ => True) v7 (zs (tml a0 j k))) ∧ Aside0 (Below w.heap.size w wr)) (fun _ v8 _ => a0.size - (intOf v8).toNat)
    case atStart => exact ⟨0, rfl, Nat.zero_le _, Nat.zero_le _, ⟨Kd.R_nil _ _ _ _ _⟩, ⟨Below.refl _ _⟩⟩
    case round =>
      obtain ⟨j, rfl, hj, hjm, HO, HB⟩ := hrel
      by_cases hlt : j < a0.size
      · by_cases hlm : j < most
        · have hsn := tml_snoc a0 j k hlt
          have Hsn := Lib.hid hsn
          clear hsn
          have hmod : a0[j].toNat % k < 4 := by have := Nat.mod_lt a0[j].toNat (show k > 0 by omega); omega
          have hX : (97 + (wrap64 (a0[j].toNat : Int)).tmod (k : Int)) % 256 = ((97 + a0[j].toNat % k : Nat) : Int) := by
            have h0 := a0[j].toNat_lt
            have e : wrap64 (a0[j].toNat : Int) = ((a0[j].toNat : Nat) : Int) := by unfold wrap64; omega
            rw [e, ← Int.ofNat_tmod]
            omega
          have HX := Lib.hid hX
          clear hX
          go_wp2_with ((with_reducible refine gate_builtin (b := .append) (xs := #[.tmp 20, .tmp 29]) rfl ?_); at_builtin; refine Kd.R_append (Kd.int .u8) (w0 := w) w.heap.size rfl (.tmp 20) (.tmp 29) 66 5 (.int .u8 0) 1 rfl Try.underlying66 info5 rfl (by decide) (by omega) u7 (zs (tml a0 j k)) ((97 + (wrap64 (a0[j].toNat : Int)).tmod (k : Int)) % 256) [.int .u8 ((97 + (wrap64 (a0[j].toNat : Int)).tmod (k : Int)) % 256)] (fun _ => True) (fun _ => False) rfl rfl rfl (fun _ hk => hk.elim) (fun _ _ => trivial) HO.out HB.out HB.out.size (by rw [zs_len, tml_len]; omega) ?_; intro v4 w4 ho hb hg hat)
          go_roundw
          case rel =>
            refine ⟨j + 1, by go_num, by omega, by omega, ⟨?_⟩, ⟨hb⟩⟩
            rw [Hsn.out, zs_snoc, ← HX.out]; exact ho
          case measure => simp [intOf]; omega
        · have hcv := own_string (P := Try.prog) Try.underlying66 Try.underlying5 Try.underlying9 (Kd.own_of_R HO.out)
          go_wp2
          go_ret
          obtain rfl : j = most := by omega
          rw [strOf_zs, Hr.out]
          exact ⟨rfl, HB.out⟩
      · have hcv := own_string (P := Try.prog) Try.underlying66 Try.underlying5 Try.underlying9 (Kd.own_of_R HO.out)
        go_wp2
        go_ret
        obtain rfl : j = a0.size := by omega
        rw [strOf_zs, ← tml_all a0 most k (by omega), Hr.out]
        exact ⟨rfl, HB.out⟩
  · cases h
end Go.Proofs.Ytfjbodaakmapdaa

/-! ## Lets -/
namespace Go.Proofs.Ytfjbodaakmapdaa
open Go.RowKit Th

theorem bl_strL {k : Nat} {l : List Nat} (h : Lt k l) (hk : k ≤ 4) : bl (str l) = l := bl_str l fun x hx => by have := h x hx; omega
theorem isW_str {l : List Nat} (h : Lt 4 l) (hl : l.length ≤ 60) : isW (str l) = true := by
  unfold isW
  rw [str_size, bl_strL h (Nat.le_refl _), decide_eq_true hl, Bool.true_and, List.all_eq_true]
  intro x hx
  have := h x hx
  exact decide_eq_true (by omega)
theorem lt_of_isW {s : ByteArray} (h : isW s = true) : Lt 4 (bl s) := by
  unfold isW at h
  rw [Bool.and_eq_true, List.all_eq_true] at h
  intro x hx
  have := of_decide_eq_true (h.2 x hx)
  omega
theorem tml_lt (s : ByteArray) (m k : Nat) (hk : 1 ≤ k) : Lt k (tml s m k) := by
  intro x hx
  unfold tml at hx
  obtain ⟨y, _, rfl⟩ := List.mem_map.1 hx
  have := Nat.mod_lt y (show k > 0 by omega)
  omega
theorem tame_f (s : ByteArray) (m k : Nat) (hm : m ≤ 1000) (hk : 1 ≤ k ∧ k ≤ 4) : Given.tickinglaw03_tame.f s m k = some (str (tml s m k)) := by
  unfold Given.tickinglaw03_tame.f
  rw [if_pos (by omega), Int.toNat_natCast, Int.toNat_natCast]
theorem bl_tml (s : ByteArray) (m k : Nat) (hk : 1 ≤ k ∧ k ≤ 4) : bl (str (tml s m k)) = tml s m k := bl_strL (tml_lt s m k hk.1) hk.2
theorem isW_tml (s : ByteArray) (m k : Nat) (hk : 1 ≤ k ∧ k ≤ 4) (hm : m ≤ 60) : isW (str (tml s m k)) = true :=
  isW_str ((tml_lt s m k hk.1).mono hk.2) (by rw [tml_len]; omega)
end Go.Proofs.Ytfjbodaakmapdaa

/-! ## Uni -/
namespace Go.Proofs.Ytfjbodaakmapdaa
open Go.RowKit Th

theorem tp_lo (l : List Nat) (i k : Nat) (hk : 1 ≤ k) : i ≤ tp l i k := Nat.le_trans (nx_ge l 0 i) (tp_ge l i k 0 hk)
theorem ar_len (l : List Nat) (k : Nat) (hk : 1 ≤ k) : ∀ (f i : Nat), l.length + 1 ≤ f + i → i ≤ l.length → (ar l k f i).length + 1 = ls l k i
  | 0, i, h, hi => by omega
  | f + 1, i, h, hi => by
    have h1 := tp_lo l i k hk
    have h2 := tp_le l i hi k
    rw [ar, ls_step l k i hk hi]
    by_cases e : tp l i k = l.length
    · rw [if_pos e, ls_end l k _ (by omega)]; rfl
    · rw [if_neg e, List.length_cons, ar_len l k hk f (tp l i k + 1) (by omega) (by omega)]; omega

/-! ### A word repeated -/
end Go.Proofs.Ytfjbodaakmapdaa

/-! ## LongP -/
namespace Go.Proofs.Ytfjbodaakmapdaa
open Go.RowKit Th

/-- A row of the table, from the row below. -/
def moR (a : Nat) (f : List Nat → Nat) : List Nat → Nat
  | [] => 0
  | b :: y => if a = b then max (max (f (b :: y)) (moR a f y)) (1 + f y) else max (f (b :: y)) (moR a f y)
/-- The length of a longest common subsequence. -/
def mo : List Nat → List Nat → Nat
  | [] => fun _ => 0
  | a :: x => moR a (mo x)
/-- Is the letter number c the next one of a longest common subsequence, from positions on? -/
def lgP (x y : List Nat) (i j c : Nat) : Bool := (decide (nx x c i < x.length) && decide (nx y c j < y.length)) && (1 + mo (x.drop (nx x c i + 1)) (y.drop (nx y c j + 1)) == mo (x.drop i) (y.drop j))
def lg (x y : List Nat) : Nat → Nat → Nat → List Nat
  | 0, _, _ => []
  | f + 1, i, j => if mo (x.drop i) (y.drop j) = 0 then [] else match (List.range 4).find? (lgP x y i j) with
    | some c => (97 + c) :: lg x y f (nx x c i + 1) (nx y c j + 1)
    | none => []

end Go.Proofs.Ytfjbodaakmapdaa

/-! ## Long -/
namespace Go.Proofs.Ytfjbodaakmapdaa
open Go.RowKit Go.Shelf Th Kit Go.Proofs.YtfjbodaakmapdaaW.PrintWords
attribute [local go_sem] Oper.semAt_some

/-- The table: a cell of each pair of positions that P names is done. -/
structure LT (x y : List Nat) (P : Nat → Nat → Prop) (cs : Array Value) : Prop where
  size : cs.size = 3721
  row : ∀ r c, P r c → r ≤ 60 → c ≤ 60 → cs[r * 61 + c]? = some (.int .i64 (mo (x.drop r) (y.drop c)))
theorem LT.set {x y : List Nat} {P Q : Nat → Nat → Prop} {cs : Array Value} (h : LT x y P cs) (i j : Nat) (hi : i ≤ 60) (hj : j ≤ 60) (v : Value) (hv : Q i j → v = .int .i64 (mo (x.drop i) (y.drop j))) (hQ : ∀ r c, Q r c → (r = i ∧ c = j) ∨ P r c) :
    LT x y Q (cs.setIfInBounds (i * 61 + j) v) := by
  refine ⟨by rw [Array.size_setIfInBounds]; exact h.size, fun r c hq hr hc => ?_⟩
  by_cases e : r = i ∧ c = j
  · obtain ⟨rfl, rfl⟩ := e
    rw [Array.getElem?_setIfInBounds_self, if_pos (by rw [h.size]; omega), hv hq]
  · rw [Array.getElem?_setIfInBounds_ne (by omega)]
    exact h.row r c ((hQ r c hq).resolve_left e) hr hc
theorem LT.mono {x y : List Nat} {P Q : Nat → Nat → Prop} {cs : Array Value} (h : LT x y P cs) (hQ : ∀ r c, Q r c → P r c) : LT x y Q cs := ⟨h.size, fun r c hq => h.row r c (hQ r c hq)⟩

/-- Longest's variables in memory, and that nothing else has changed. -/
structure LgS (b13 : Nat) (S : Nat → Prop) (W0 W : World) (i j : Nat) (out : ByteArray) : Prop where
  ho : Blk W b13 #[.string out] 9
  ha : Blk W (b13 + 1) #[.int .i64 i] 3
  he : Blk W (b13 + 2) #[.int .i64 j] 3
  but : But S W0 W
theorem LgS.turn {b13 i j : Nat} {S : Nat → Prop} {W0 W W' : World} {out : ByteArray} {row : Option Nat} (h : LgS b13 S W0 W i j out) (hg : W.grownBy W' row) (hr : Turn W0.heap.size W row) : LgS b13 S W0 W' i j out :=
  ⟨h.ho.turn hg hr, h.ha.turn hg hr, h.he.turn hg hr, h.but.turn hg hr⟩

end Go.Proofs.Ytfjbodaakmapdaa

/-! ## Long2 -/
namespace Go.Proofs.Ytfjbodaakmapdaa
open Go.RowKit Go.Shelf Th Kit Go.Proofs.YtfjbodaakmapdaaW.PrintWords

def Given.thread_Longest.f (u w : ByteArray) : Option (ByteArray × Int) :=
  some (if isW u = true then (if isW w = true then (str (lg (bl u) (bl w) 61 0 0), 0) else (⟨#[]⟩, 2)) else (⟨#[]⟩, 2))

end Go.Proofs.Ytfjbodaakmapdaa
