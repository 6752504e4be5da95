/-
  The walk of thread.Absent.
-/
import Derived.Test.YtfjbodaakmapdaaArch
namespace Go.Proofs.Ytfjbodaakmapdaa
open Go.RowKit Go.Shelf Th Kit Go.Proofs.YtfjbodaakmapdaaW.PrintWords
attribute [local go_sem] Oper.semAt_some

/-- How many letters the shortest word of the first k letters has that is no subsequence of the word from i on. -/
def lsf (l : List Nat) (k : Nat) : Nat → Nat → Nat
  | 0, _ => 0
  | f + 1, i => if i ≤ l.length then 1 + lsf l k f (tp l i k + 1) else 0
theorem lsf_irr (l : List Nat) (k : Nat) (hk : 1 ≤ k) : ∀ f g i, l.length + 1 ≤ f + i → l.length + 1 ≤ g + i → lsf l k f i = lsf l k g i
  | 0, 0, _, _, _ => rfl
  | 0, g + 1, i, h, _ => by rw [lsf, lsf, if_neg (by omega)]
  | f + 1, 0, i, _, h => by rw [lsf, lsf, if_neg (by omega)]
  | f + 1, g + 1, i, h, h' => by
    rw [lsf, lsf]
    split
    · have := Nat.le_trans (nx_ge l 0 i) (tp_ge l i k 0 hk)
      rw [lsf_irr l k hk f g _ (by omega) (by omega)]
    · rfl
def ls (l : List Nat) (k i : Nat) : Nat := lsf l k (l.length + 1) i
theorem ls_step (l : List Nat) (k i : Nat) (hk : 1 ≤ k) (h : i ≤ l.length) : ls l k i = 1 + ls l k (tp l i k + 1) := by
  have := Nat.le_trans (nx_ge l 0 i) (tp_ge l i k 0 hk)
  unfold ls
  rw [lsf, if_pos h, lsf_irr l k hk l.length (l.length + 1) _ (by omega) (by omega)]
theorem ls_end (l : List Nat) (k i : Nat) (h : l.length < i) : ls l k i = 0 := by
  unfold ls
  rw [lsf, if_neg (by omega)]
theorem ls_le (l : List Nat) (k : Nat) (hk : 1 ≤ k) (i : Nat) (h : i ≤ l.length + 1) : ls l k i + i ≤ l.length + 1 := by
  obtain ⟨n, hn⟩ : ∃ n, n = l.length + 1 - i := ⟨_, rfl⟩
  induction n using Nat.strongRecOn generalizing i with
  | _ n ih =>
    by_cases hi : i ≤ l.length
    · have h1 := Nat.le_trans (nx_ge l 0 i) (tp_ge l i k 0 hk)
      have h2 := tp_le l i hi k
      have := ih (l.length + 1 - (tp l i k + 1)) (by omega) (tp l i k + 1) (by omega) rfl
      rw [ls_step l k i hk hi]; omega
    · rw [ls_end l k i (by omega)]; omega

/-- The first absent word from i on. -/
def ab (l : List Nat) (k : Nat) : Nat → Nat → List Nat
  | 0, _ => []
  | f + 1, i => if i ≤ l.length then (match (List.range k).find? (fun c => 1 + ls l k (nx l c i + 1) == ls l k i) with
    | some c => (97 + c) :: ab l k f (nx l c i + 1)
    | none => []) else []

theorem mem_take_fin {k : Nat} (i j : Nat) {h : j < k} (hj : j < i) : (⟨j, h⟩ : Fin k) ∈ (List.finRange k).take i := by
  rw [List.mem_take_iff_getElem]
  exact ⟨j, by simp; omega, by simp⟩

/-- The number in a box. -/
def boxInt (v : Value) (w : World) : Int := match v with
  | .pointer (some p) => intOf ((w.cell? p).getD undef)
  | _ => 0
theorem boxInt_of {w : World} {p : Addr} {i : Int} (h : w.cell? p = some (.int .i64 i)) : boxInt (.pointer (some p)) w = i := by
  show intOf ((w.cell? p).getD undef) = i
  rw [h]; rfl

structure LB (s : ByteArray) (k m : Nat) (cs : Array Value) : Prop where
  size : cs.size = 62
  row : ∀ r, m ≤ r → r ≤ s.size + 1 → cs[r]? = some (.int .i64 (ls (bl s) k r))

/-- Absent's variables in memory, and that nothing else has changed. -/
structure AbS (b10 b11 : Nat) (S : Nat → Prop) (W0 W : World) (i : Nat) (out : ByteArray) : Prop where
  ho : Blk W b10 #[.string out] 9
  ha : Blk W b11 #[.int .i64 i] 3
  but : But S W0 W
theorem AbS.turn {b10 b11 i : Nat} {S : Nat → Prop} {W0 W W' : World} {out : ByteArray} {row : Option Nat} (h : AbS b10 b11 S W0 W i out) (hg : W.grownBy W' row) (hr : Turn W0.heap.size W row) : AbS b10 b11 S W0 W' i out :=
  ⟨h.ho.turn hg hr, h.ha.turn hg hr, h.but.turn hg hr⟩

set_option maxRecDepth 100000 in
set_option maxHeartbeats 4000000 in
theorem absent_walk (t : ByteArray) (k : Nat) (w : World) (ht : isW t = true) (hk : 1 ≤ k ∧ k ≤ 4) (ho : overB (bl t) k = true) :
    Calls Try.prog 17 #[.string t, .int .i64 k] w (ItemPost (str (ab (bl t) k (t.size + 1) 0)) 0 w) := by
  obtain ⟨ht60, htl⟩ := (isW_iff t).1 ht
  obtain ⟨hk1, hk2⟩ := hk
  have Ht := Lib.hid ht
  have Ho := Lib.hid ho
  have Hbl := Lib.hid (bl_len t)
  clear ht ho htl
  have hk1' : (1 : Int) ≤ (k : Int) := by omega
  have hk2' : (k : Int) ≤ 4 := by omega
  have hkr : (decide ((1 : Int) ≤ (k : Int)) && decide ((k : Int) ≤ 4)) = true := by simp; omega
  have Hkr := Lib.hid hkr
  clear hkr
  refine (callsIn_wide (n := 9)).1 ?_
  refine callsIn_of_wp_marks Try.func17 rfl trivial ?_ rfl
  simp only [Try.ntmps17, List.size_toArray, List.length_cons, List.length_nil, Nat.reduceAdd, Nat.reduceSub, Array.replicate_succ, Array.replicate_zero, List.push_toArray, List.append_toArray, List.nil_append, List.cons_append]
  refine wpIn_wide.2 ?_
  go_wp2_with fail
  refine (newWord_yes t _ Ht.out).mono ?_
  rintro e w1 ⟨rfl, hw1, hB1⟩
  have hlt1 := hw1.lt
  go_wp2_with fail
  refine (within_any _ _ _ true _ Hkr.out).mono ?_
  rintro e w2 ⟨rfl, rfl⟩
  have hp2 := Blk.new w1 #[.pointer (some ⟨w.heap.size, 0, none⟩)] 67
  have hw2 := hw1.below (below_new w1 (.cells #[.pointer (some ⟨w.heap.size, 0, none⟩)] 67))
  have hB2 := hB1.trans ((below_new w1 (.cells #[.pointer (some ⟨w.heap.size, 0, none⟩)] 67)).mono hB1.size)
  clear hw1 hB1
  go_wp2_with fail
  refine (isOver_any t k _ Ht.out ⟨hk1, hk2⟩).mono ?_
  rw [Ho.out]
  rintro e w2 ⟨rfl, hB3⟩
  have hw3 := hw2.below hB3
  have hp3 := hp2.below' hB3
  have hB := hB2.trans (hB3.mono hB2.size)
  clear hw2 hp2 hB2 hB3
  go_wp2
  go_loopw [9] (fun v wr => ∃ (q : Int) (m : Nat), v = .int .i64 q ∧ q = m - 1 ∧ m ≤ t.size + 1 ∧ Below w2.heap.size w2 wr ∧ ∃ cs, Blk wr w2.heap.size cs 76 ∧ LB t k m cs) (fun v _ => (intOf v + 1).toNat)
  case atStart =>
    refine ⟨_, t.size + 1, rfl, by omega, Nat.le_refl _, below_new _ _, _, Blk.new _ _ _, rfl, fun r h1 h2 => ?_⟩
    obtain rfl : r = t.size + 1 := by omega
    rw [ls_end _ _ _ (by rw [Hbl.out]; omega)]
    rcases (show t.size = t.size ∧ t.size + 1 < 62 by omega) with ⟨_, h62⟩
    generalize t.size + 1 = j at h62
    have hall : ∀ j : Fin 62, (Array.replicate 62 (Value.int .i64 0))[j.val]? = some (.int .i64 ((0 : Nat) : Int)) := fun j => by simp
    exact hall ⟨j, h62⟩
  case round =>
    obtain ⟨q, m, rfl, hq, hm, hB4, cs, hcs, hrow⟩ := hrel
    have hp4 := hp3.below' hB4
    have hw4 := hw3.below hB4
    have hp3lt := hp3.lt
    have cp := hp4.cell 0
    simp only [List.getElem?_toArray, List.getElem?_cons_zero] at cp
    cases m with
    | zero =>
      obtain rfl : q = -1 := by omega
      clear hq
      have hcr := hrow.row
      have hbl2 := hcs
      clear hcr
      go_wp2
      have hb10 := hB4.size
      obtain ⟨b10, hb⟩ : ∃ b, b = wr.heap.size := ⟨_, rfl⟩
      obtain ⟨b11, hb1⟩ : ∃ b, b = wr.heap.size + 1 := ⟨_, rfl⟩
      have ho0 := (Blk.new wr #[.string ⟨#[]⟩] 9).alloc (.cells #[.int .i64 0] 3)
      have ha0 := Blk.new2 wr (.cells #[.string ⟨#[]⟩] 9) #[.int .i64 0] 3
      have hp0 := (hp4.alloc (.cells #[.string ⟨#[]⟩] 9)).alloc (.cells #[.int .i64 0] 3)
      have hl0 := (hcs.alloc (.cells #[.string ⟨#[]⟩] 9)).alloc (.cells #[.int .i64 0] 3)
      have hw0 := (hw4.below (below_new wr (.cells #[.string ⟨#[]⟩] 9))).below (below_new _ (.cells #[.int .i64 0] 3))
      have hB0 := hB.trans ((hB4.trans ((below_new2 wr (.cells #[.string ⟨#[]⟩] 9) (.cells #[.int .i64 0] 3)).mono hB4.size)).mono hB.size)
      have hs0 : ((wr.alloc (.cells #[.string ⟨#[]⟩] 9)).alloc (.cells #[.int .i64 0] 3)).heap.size = wr.heap.size + 2 := by simp
      rw [← hb] at ho0
      rw [← hb1] at ha0
      have q0 := hcs.lt
      have q1 : w2.heap.size < b10 := by omega
      have q2 : b11 = b10 + 1 := by omega
      have q3 : ((wr.alloc (.cells #[.string ⟨#[]⟩] 9)).alloc (.cells #[.int .i64 0] 3)).heap.size = b10 + 2 := by omega
      rw [← hb1, ← hb]
      clear hs0 hb10 q0
      generalize (wr.alloc (.cells #[.string ⟨#[]⟩] 9)).alloc (.cells #[.int .i64 0] 3) = W0 at ho0 ha0 hp0 hl0 hw0 hB0 q3 ⊢
      have q4 := hp3.lt
      clear hp4 hcs hbl2 hw4 hB4 cp hb hb1
      obtain ⟨S, hS⟩ : ∃ S : Nat → Prop, S = fun b => b = b10 ∨ W0.heap.size - 1 ≤ b := ⟨_, rfl⟩
      have HS := Lib.hid hS
      clear hS
      refine wp_loop (fun a wr => ∃ (u53 u54 u55 u56 u57 u58 u82 : Value) (ds : List Deferred) (b11 i top f : Nat) (pre : List Nat),
        a = { tmps := #[Value.string t, Value.int IntKind.i64 ↑k, undef, undef, Value.string { data := #[] }, Value.int IntKind.i64 0, Value.pointer (some ⟨w1.heap.size, 0, none⟩), Value.bool true, Value.pointer (some ⟨w2.heap.size, 0, none⟩), Value.int IntKind.i64 (-1), Value.pointer (some ⟨b10, 0, none⟩), Value.pointer (some ⟨b11, 0, none⟩), undef, undef, undef, Value.tuple #[Value.pointer (some ⟨w.heap.size, 0, none⟩), Value.bool true], Value.string t, Value.tuple #[Value.pointer (some ⟨w.heap.size, 0, none⟩), Value.bool true], Value.pointer (some ⟨w.heap.size, 0, none⟩), Value.bool true, Value.bool true, Value.bool false, Value.bool false, Value.int IntKind.i64 ↑k, Value.bool true, Value.bool false, Value.bool false, Value.bool false, Value.string t, Value.int IntKind.i64 ↑k, Value.bool true, Value.bool false, Value.bool false, Value.string t, Value.int IntKind.i64 ↑t.size, Value.int IntKind.i64 (-1), Value.bool false, u37, u38, u39, u40, u41, u42, u43, u44, u45, u46, u47, u48, u49, u50, u51, u52, u53, u54, u55, u56, u57, u58, undef, undef, undef, undef, undef, undef, undef, undef, undef, undef, undef, undef, undef, undef, undef, undef, undef, undef, undef, undef, undef, undef, undef, u82, undef], defers := ds } ∧ Blk wr b10 #[.string (str pre)] 9 ∧ Blk wr b11 #[.int .i64 i] 3 ∧ b10 < b11 ∧
        i ≤ t.size + 1 ∧ t.size + 1 ≤ f + i ∧ RowKit.Hid (ab (bl t) k (t.size + 1) 0 = pre ++ ab (bl t) k f i) ∧ pre.length ≤ i ∧ But S W0 wr ∧ Marks W0.heap.size wr ds top ∧ top ≤ wr.heap.size)
        (fun a wr => t.size + 1 - (boxInt (a.tmps.getD 11 undef) wr).toNat) ?_ ?_
      · exact ⟨_, _, _, _, _, _, _, [], b11, 0, 0, t.size + 1, [], rfl, ho0, ha0, by omega, Nat.zero_le _, by omega, Lib.hid rfl, Nat.le_refl _, But.refl _ _, trivial, Nat.zero_le _⟩
      rintro a wr ⟨u53, u54, u55, u56, u57, u58, u82, ds, b11, i, top, f, pre, rfl, ho1, ha1, hb11, hi, hf, Hit, hpi, hBt, hM, htop⟩
      have c1 := ho1.cell 0
      have c2 := ha1.cell 0
      simp only [List.getElem?_toArray, List.getElem?_cons_zero] at c1 c2
      by_cases hi2 : i ≤ t.size
      · have Hc2 := Lib.hid c2
        go_wp2_with fail
        refine (callsIn_wide.1 (alphabet_in Fence.wide 8 trivial rfl k _)).mono ?_
        rintro e w2' ⟨rfl, rfl⟩
        have ho2 := ho1.alloc (.cells #[.int .i64 k] 3)
        have ha2 := ha1.alloc (.cells #[.int .i64 k] 3)
        have hBt2 := hBt.alloc (.cells #[.int .i64 k] 3)
        have hM2 := hM.alloc (.cells #[.int .i64 k] 3)
        have hb2 := Blk.new wr #[.int .i64 k] 3
        have hsz : (wr.alloc (.cells #[.int .i64 k] 3)).heap.size = wr.heap.size + 1 := by simp
        generalize wr.alloc (.cells #[.int .i64 k] 3) = W2 at ho2 ha2 hBt2 hM2 hb2 hsz ⊢
        have ho1lt := ho1.lt
        have ha1lt := ha1.lt
        clear ho1 ha1 hBt hM c1 c2
        go_wp2
        have c4 := hb2.cell 0
        simp only [List.getElem?_toArray, List.getElem?_cons_zero] at c4
        obtain ⟨R, hR⟩ : ∃ R : Nat → Prop, R = fun b => b = b10 ∨ b = b11 := ⟨_, rfl⟩
        have HR := Lib.hid hR
        clear hR
        refine (wpIn_wide (n := 9)).1 ?_
        refine wpIn_rangeFunc_ownG (F := Fence.wide) (n := 9) rfl (by omega) (gf := 64) (lb := #[.pointer (some ⟨wr.heap.size, 0, none⟩)]) rfl trivial (enters_of Try.func64 (by kernel_rfl) rfl)
          (alpha_stops Fence.wide 8 trivial rfl (by omega) wr.heap.size k (by omega) W2 (by omega) c4) (fun _ _ => trivial) (fun _ _ _ _ _ _ _ _ => trivial) (Below.refl _ _) (fun _ => rfl)
          (fun pr W => (∀ c ∈ pr, 1 + ls (bl t) k (nx (bl t) c.val i + 1) ≠ ls (bl t) k i) ∧ AbS b10 b11 R W2 W i (str pre))
          (fun c pr W => c = .exit 4 ∧ ∃ (p : List (Fin k)) (x : Fin k), pr = p ++ [x] ∧ (∀ c ∈ p, 1 + ls (bl t) k (nx (bl t) c.val i + 1) ≠ ls (bl t) k i) ∧ 1 + ls (bl t) k (nx (bl t) x.val i + 1) = ls (bl t) k i ∧
            AbS b10 b11 R W2 W (nx (bl t) x.val i + 1) (str (pre ++ [97 + x.val])))
          (fun s A B row hs hg hr => ⟨hs.1, hs.2.turn hg hr⟩)
          (fun c s A B row hs hg hr => by obtain ⟨hc, p, x, e, h1, h2, h3⟩ := hs; exact ⟨hc, p, x, e, h1, h2, h3.turn hg hr⟩)
          ⟨by simp, ho2, ha2, But.refl _ _⟩
          (fun x => { tmps := #[Value.string t, Value.int IntKind.i64 ↑k, undef, undef, Value.string { data := #[] }, Value.int IntKind.i64 0, Value.pointer (some ⟨w1.heap.size, 0, none⟩), Value.bool true, Value.pointer (some ⟨w2.heap.size, 0, none⟩), Value.int IntKind.i64 (-1), Value.pointer (some ⟨b10, 0, none⟩), Value.pointer (some ⟨b11, 0, none⟩), Value.int IntKind.i64 (x.val : Int), Value.string (letter x.val), undef, Value.tuple #[Value.pointer (some ⟨w.heap.size, 0, none⟩), Value.bool true], Value.string t, Value.tuple #[Value.pointer (some ⟨w.heap.size, 0, none⟩), Value.bool true], Value.pointer (some ⟨w.heap.size, 0, none⟩), Value.bool true, Value.bool true, Value.bool false, Value.bool false, Value.int IntKind.i64 ↑k, Value.bool true, Value.bool false, Value.bool false, Value.bool false, Value.string t, Value.int IntKind.i64 ↑k, Value.bool true, Value.bool false, Value.bool false, Value.string t, Value.int IntKind.i64 ↑t.size, Value.int IntKind.i64 (-1), Value.bool false, u37, u38, u39, u40, u41, u42, u43, u44, u45, u46, u47, u48, u49, u50, u51, u52, Value.int IntKind.i64 ↑i, Value.string t, Value.int IntKind.i64 ↑t.size, Value.bool true, Value.int IntKind.i64 ↑k, Value.func (Fn.func 64) #[] #[Value.pointer (some ⟨wr.heap.size, 0, none⟩)], Value.int IntKind.i64 (x.val : Int), Value.string (letter x.val), undef, undef, undef, undef, undef, undef, undef, undef, undef, undef, undef, undef, undef, undef, undef, undef, undef, undef, undef, undef, undef, u82, undef], defers := [] }) ?assign ?body ?done ?stop
        case assign =>
          intro l x W K hK
          gi_wp2
          exact hK
        case body =>
          rintro l pr x W ⟨hsm, hI⟩ _
          have hbt := hBt2.trans (hI.but.mono (S' := S) (fun b hb => by rw [HR.out] at hb; rw [HS.out]; rcases hb with rfl | rfl; exact .inl rfl; exact .inr (by omega)))
          have hx4 := x.isLt
          have hn1 : ¬ S w1.heap.size := by rw [HS.out]; omega
          have hn3 : ¬ S w2.heap.size := by rw [HS.out]; omega
          have hnw : ¬ S w.heap.size := by rw [HS.out]; omega
          have cp := (hp0.but hbt hn1).cell 0
          have co := hI.ho.cell 0
          have ca := hI.ha.cell 0
          have fo := hI.ho.frozen 0
          have fa := hI.ha.frozen 0
          have hlW := hl0.but hbt hn3
          have hwW := hw0.but hbt hnw
          simp only [List.getElem?_toArray, List.getElem?_cons_zero] at cp co ca
          clear hn1 hn3 hnw
          have hle := nx_le (bl t) x.val i (by rw [Hbl.out]; exact hi2)
          rw [Hbl.out] at hle
          have hge := nx_ge (bl t) x.val i
          have cn := hwW.next i x.val hi2 (by omega)
          obtain ⟨A, hA⟩ : ∃ A, A = ls (bl t) k (nx (bl t) x.val i + 1) := ⟨_, rfl⟩
          obtain ⟨B, hBB⟩ : ∃ B, B = ls (bl t) k i := ⟨_, rfl⟩
          have cl : W.cell? ⟨w2.heap.size, nx (bl t) x.val i + 1, none⟩ = some (.int .i64 A) := by
            rw [hlW.cell, hA]; exact hrow.row _ (by omega) (by omega)
          have cl2 : W.cell? ⟨w2.heap.size, i, none⟩ = some (.int .i64 B) := by
            rw [hlW.cell, hBB]; exact hrow.row _ (by omega) (by omega)
          have hl1 := ls_le (bl t) k hk1 (nx (bl t) x.val i + 1) (by rw [Hbl.out]; omega)
          have hl2 := ls_le (bl t) k hk1 i (by rw [Hbl.out]; omega)
          rw [Hbl.out] at hl1 hl2
          rw [← hA] at hl1
          rw [← hBB] at hl2
          have HA := Lib.hid hA
          have HBB := Lib.hid hBB
          clear hA hBB
          have e1 : IntKind.i64.wrap (1 + (A : Int)) = 1 + (A : Int) := IntWalk.i64_in _ (by omega)
          have e2 : ((nx (bl t) x.val i : Int) + 1).toNat = nx (bl t) x.val i + 1 := by omega
          have e3 : IntKind.i64.wrap ((nx (bl t) x.val i : Int) + 1) = (nx (bl t) x.val i : Int) + 1 := IntWalk.i64_in _ (by omega)
          have j1 : (0 : Int) ≤ (nx (bl t) x.val i : Int) + 1 := by omega
          have j2 : (nx (bl t) x.val i : Int) + 1 < 62 := by omega
          have j3 : (i : Int) < 62 := by omega
          have j4 : (i : Int) < 61 := by omega
          have j5 : (x.val : Int) < 4 := by omega
          gi_wp2
          refine wpIn_region_quiet_round (by kernel_rfl) (by kernel_rfl) (by kernel_rfl) ?_
          repeat (gi_big_quiet_step (fail))
          refine wpQuietIn_nil ?_
          rintro _ ⟨nq, rfl⟩
          gi_wp2
          refine wpIn_region_quiet_round (by kernel_rfl) (by kernel_rfl) (by kernel_rfl) ?_
          repeat (gi_big_quiet_step (fail))
          refine wpQuietIn_nil ?_
          rintro _ ⟨nq2, rfl⟩
          have hk2 := ((keepsO_drewN W nq).trans (keepsO_drewN _ nq2))
          have hI2 : AbS b10 b11 R W2 ((W.drewN nq).drewN nq2) i (str pre) := ⟨(hI.ho.drewN _).drewN _, (hI.ha.drewN _).drewN _, (hI.but.drewN _).drewN _⟩
          have co := hI2.ho.cell 0
          have ca := hI2.ha.cell 0
          have fo := hI2.ho.frozen 0
          have fa := hI2.ha.frozen 0
          simp only [List.getElem?_toArray, List.getElem?_cons_zero] at co ca
          generalize (W.drewN nq).drewN nq2 = W3 at hk2 hI2 co ca fo fa ⊢
          clear e1 e2 e3
          by_cases hq : 1 + (A : Int) = (B : Int)
          · iterate 6 gi_step
            have hps : (str pre).size + (letter x.val).size ≤ 9223372036854775807 := by
              rw [letter_eq ⟨x.val, by omega⟩, str_size, str_size]; simp; omega
            gi_wp2
            refine ⟨((hk2.trans (KeepsOthers.setCell _ _ _)).trans (KeepsOthers.setCell _ _ _)).from _, rfl, pr, x, rfl, hsm, by rw [← HA.out, ← HBB.out]; omega, ?_, ?_, ?_⟩
            · exact ((hI2.ho.set1 _).other _ (by simp; omega) _).as (by rw [letter_eq ⟨x.val, by omega⟩, str_append])
            · exact ((hI2.ha.other _ (by simp; omega) _).set1 _).as (one_int (by omega))
            · exact (hI2.but.set (.inl (by rw [HR.out]; simp)) _).set (.inl (by rw [HR.out]; simp)) _
          · gi_wp2
            refine ⟨hk2.from _, trivial, ?_, hI2.ho, hI2.ha, hI2.but⟩
            intro c hc
            rcases List.mem_append.1 hc with hc | hc
            · exact hsm c hc
            · obtain rfl := List.mem_singleton.1 hc
              rw [← HA.out, ← HBB.out]; omega
        case done =>
          rintro D xs W _ rfl ⟨hsm, _⟩ _
          obtain ⟨c, hc, he⟩ := tp_in (bl t) i k hk1
          have hst := ls_step (bl t) k i hk1 (by rw [Hbl.out]; exact hi2)
          rw [he] at hst
          exact absurd hst.symm (hsm ⟨c, hc⟩ (List.mem_finRange _))
        case stop =>
          rintro D c pr W hD hpre ⟨rfl, p, x, rfl, hs1, hs2, hI⟩ hK
          have hp := prefix_snoc hpre
          have hx4 := x.isLt
          have hle := nx_le (bl t) x.val i (by rw [Hbl.out]; exact hi2)
          rw [Hbl.out] at hle
          have hge := nx_ge (bl t) x.val i
          have hDlt : D < W.heap.size := (Array.getElem?_eq_some_iff.1 hK).1
          have hMW := hM2.but hI.but (by omega) (fun D hD hs => by
            rw [HR.out] at hs
            rcases hs with rfl | rfl
            · rw [ho2.out] at hD; cases hD
            · rw [ha2.out] at hD; cases hD)
          have hbt := hBt2.trans (hI.but.mono (S' := S) (fun b hb => by rw [HR.out] at hb; rw [HS.out]; rcases hb with rfl | rfl; exact .inl rfl; exact .inr (by omega)))
          have hs0 := hBt2.size
          have cW := hI.ha.cell 0
          simp only [List.getElem?_toArray, List.getElem?_cons_zero] at cW
          have hfind : (List.range k).find? (fun c => 1 + ls (bl t) k (nx (bl t) c i + 1) == ls (bl t) k i) = some x.val := by
            rw [List.find?_range_eq_some]
            refine ⟨by simpa using hs2, by simp, fun j hj => ?_⟩
            have := hs1 ⟨j, by omega⟩ (by rw [hp]; exact mem_take_fin _ _ hj)
            simpa using this
          obtain ⟨f, rfl⟩ : ∃ g, f = g + 1 := ⟨f - 1, by omega⟩
          have hab : ab (bl t) k (t.size + 1) 0 = (pre ++ [97 + x.val]) ++ ab (bl t) k f (nx (bl t) x.val i + 1) := by
            rw [Hit.out, ab, if_pos (by rw [Hbl.out]; exact hi2), hfind]; simp
          have Hab := Lib.hid hab
          have HcW := Lib.hid cW
          have Hc2 := Lib.hid Hc2.out
          clear hab hfind hs1 hs2 hp
          gi_wp2
          go_wp2
          refine ⟨⟨_, _, _, _, _, _, _, _, W.heap.size, nx (bl t) x.val i + 1, D + 1, f, pre ++ [97 + x.val], rfl, hI.ho.alloc _, Blk.new _ _ _, ?_, by omega, by omega, Hab, by simp; omega, hbt.alloc _, ?_, ?_⟩, ?_⟩
          · omega
          · exact ⟨D, rfl, by omega, by omega, by rw [Below.heap_alloc _ _ _ hDlt]; exact hK, (hMW.alloc _).up (by omega)⟩
          · simp; omega
          · refine Nat.lt_of_le_of_lt (Nat.le_of_eq (congrArg (fun z : Int => t.size + 1 - z.toNat) (boxInt_of (i := (nx (bl t) x.val i : Int) + 1) ?_))) (Nat.lt_of_lt_of_le ?_ (Nat.le_of_eq (congrArg (fun z : Int => t.size + 1 - z.toNat) (boxInt_of (p := ⟨b11, 0, none⟩) Hc2.out)).symm))
            · have := (Blk.new W #[.int .i64 ((nx (bl t) x.val i : Int) + 1)] 3).cell 0
              simp only [List.getElem?_toArray, List.getElem?_cons_zero] at this
              exact this
            · show t.size + 1 - _ < t.size + 1 - _
              omega
      · have hab : pre = ab (bl t) k (t.size + 1) 0 := by
          rw [Hit.out]
          cases f with
          | zero => rw [ab, List.append_nil]
          | succ f => rw [ab, if_neg (by rw [Hbl.out]; exact hi2), List.append_nil]
        have Hab := Lib.hid hab
        clear hab
        go_wp2
        refine leaves_marks (v := .tuple #[.string (str pre), .int .i64 0]) ds wr top hM (fun w' => results_tmp2 (t := 4) (u := 5) rfl _ _ _) (fun w' hb => ⟨?_, ?_⟩)
        · rw [Hab.out]
        · have h1 := hBt.below hB0.size (fun k hk => by
            rw [HS.out] at hk
            omega)
          exact (hB0.trans h1).trans (hb.mono hB0.size)
    | succ j =>
      obtain rfl : q = (j : Int) := by omega
      clear hq
      have hsz := hrow.size
      obtain ⟨x, hx⟩ : ∃ x, wr.cell? ⟨w2.heap.size, j, none⟩ = some x := by
        rw [hcs.cell]
        exact ⟨_, Array.getElem?_eq_getElem (by omega)⟩
      have hf : wr.frozen? ⟨w2.heap.size, j, none⟩ = false := hcs.frozen _
      have j3 : (j : Int) < 62 := by omega
      have hle := tp_le (bl t) j (by rw [Hbl.out]; omega) k
      rw [Hbl.out] at hle
      have hge : j ≤ tp (bl t) j k := Nat.le_trans (nx_ge _ 0 _) (tp_ge _ _ _ 0 (by omega))
      have c2 : wr.cell? ⟨w2.heap.size, tp (bl t) j k + 1, none⟩ = some (.int .i64 (ls (bl t) k (tp (bl t) j k + 1))) := by
        rw [hcs.cell]; exact hrow.row _ (by omega) (by omega)
      have hls := ls_le (bl t) k hk1 (tp (bl t) j k + 1) (by rw [Hbl.out]; omega)
      rw [Hbl.out] at hls
      have hst := ls_step (bl t) k j hk1 (by rw [Hbl.out]; omega)
      have Hst := Lib.hid hst
      have Hsz := Lib.hid hsz
      clear hst hsz
      generalize hp : tp (bl t) j k = p at *
      have Hp := Lib.hid hp
      clear hp
      generalize hq : ls (bl t) k (p + 1) = q at *
      have Hq := Lib.hid hq
      clear hq
      have e1 : IntKind.i64.wrap (1 + (q : Int)) = 1 + (q : Int) := IntWalk.i64_in _ (by omega)
      have e2 : ((p : Int) + 1).toNat = p + 1 := by omega
      have e3 : IntKind.i64.wrap ((p : Int) + 1) = (p : Int) + 1 := IntWalk.i64_in _ (by omega)
      have j1 : (0 : Int) ≤ (p : Int) + 1 := by omega
      have j2 : (p : Int) + 1 < 62 := by omega
      go_wp2_with (go_at_call 45; refine (max_any _ t j k _ hw4 (by omega) ⟨hk1, hk2⟩).mono ?_; rw [Hp.out]; rintro e w' ⟨rfl, rfl⟩)
      go_roundw
      case rel =>
        refine ⟨_, j, rfl, rfl, by omega, hB4.setCell (p := ⟨w2.heap.size, _, none⟩) (by simp) _, _, hcs.set _ _, by rw [Array.size_setIfInBounds]; exact Hsz.out, fun r h1 h2 => ?_⟩
        by_cases hr : r = j
        · subst hr
          rw [Array.getElem?_setIfInBounds_self, if_pos (by rw [Hsz.out]; omega), Hst.out]; congr 2
        · rw [Array.getElem?_setIfInBounds_ne (by omega)]; exact hrow.row r (by omega) h2
      case measure => simp [intOf]

theorem absent_no (t : ByteArray) (k : Int) (w : World) (h : archOk t k = false) : Calls Try.prog 17 #[.string t, .int .i64 k] w (ItemPost ⟨#[]⟩ 2 w) := by
  unfold archOk at h
  cases ht : isW t with
  | false =>
    have Ht := Lib.hid ht
    clear ht h
    go_enter Try.func17, Try.ntmps17
    go_wp2_with fail
    refine (newWord_no t _ Ht.out).mono ?_
    rintro e w1 ⟨rfl, hB1⟩
    go_wp2
    go_ret2
    exact ⟨rfl, hB1.trans ((below_new w1 _).mono hB1.size)⟩
  | true =>
    have Ht := Lib.hid ht
    cases hkr : (decide (1 ≤ k) && decide (k ≤ 4)) with
    | false =>
      have Hkr := Lib.hid hkr
      clear ht h hkr
      go_enter Try.func17, Try.ntmps17
      go_wp2_with fail
      refine (newWord_yes t _ Ht.out).mono ?_
      rintro e w1 ⟨rfl, _, hB1⟩
      go_wp2_with (go_at_call 43; refine (within_any _ _ _ false _ Hkr.out).mono ?_; rintro e w2 ⟨rfl, rfl⟩)
      go_ret2
      exact ⟨rfl, hB1.trans ((below_new w1 _).mono hB1.size)⟩
    | true =>
      have hk : 1 ≤ k ∧ k ≤ 4 := by simpa using hkr
      obtain ⟨k, rfl⟩ : ∃ n : Nat, k = n := ⟨k.toNat, by omega⟩
      have ho : overB (bl t) k = false := by rw [ht, hkr] at h; simpa using h
      have Ho := Lib.hid ho
      have Hkr := Lib.hid hkr
      clear ht h hkr ho
      have Hk : 1 ≤ k ∧ k ≤ 4 := by omega
      clear hk
      go_enter Try.func17, Try.ntmps17
      go_wp2_with fail
      refine (newWord_yes t _ Ht.out).mono ?_
      rintro e w1 ⟨rfl, _, hB1⟩
      go_wp2_with (first | (go_at_call 43; refine (within_any _ _ _ true _ Hkr.out).mono ?_; rintro e w2 ⟨rfl, rfl⟩) | (go_at_call 44; refine (isOver_any t k _ Ht.out Hk).mono ?_; rw [Ho.out]; rintro e w2 ⟨rfl, hB2⟩))
      go_ret2
      exact ⟨rfl, hB1.trans (((below_new w1 _).trans (hB2.mono (by simp))).mono hB1.size)⟩

def Given.thread_Absent.f (w : ByteArray) (k : Int) : Option (ByteArray × Int) :=
  some (if archOk w k = true then (str (ab (bl w) k.toNat (w.size + 1) 0), 0) else (⟨#[]⟩, 2))

theorem Given.thread_Absent.calls (a0 : ByteArray) (a1 : Int) (r1 : ByteArray) (r2 : Int) (w : World) (h : Given.thread_Absent.f a0 a1 = some (r1, r2)) :
    Calls Try.prog 17 #[.string a0, .int .i64 a1] w fun e w' => e = .returned (.tuple #[.string r1, .int .i64 r2]) ∧ Below w.heap.size w w' := by
  show Calls Try.prog 17 #[.string a0, .int .i64 a1] w (ItemPost r1 r2 w)
  unfold Given.thread_Absent.f at h
  cases hu : archOk a0 a1 with
  | false =>
    rw [hu] at h
    obtain ⟨rfl, rfl⟩ : (⟨#[]⟩ : ByteArray) = r1 ∧ (2 : Int) = r2 := by simpa using h
    exact absent_no a0 a1 w hu
  | true =>
    rw [hu, if_pos rfl] at h
    unfold archOk at hu
    simp only [Bool.and_eq_true, decide_eq_true_eq] at hu
    obtain ⟨ht, ⟨h1, h2⟩, ho⟩ := hu
    obtain ⟨k, rfl⟩ : ∃ n : Nat, a1 = n := ⟨a1.toNat, by omega⟩
    obtain ⟨rfl, rfl⟩ : str (ab (bl a0) k (a0.size + 1) 0) = r1 ∧ (0 : Int) = r2 := by simpa using h
    exact absent_walk a0 k w ht (by omega) ho
end Go.Proofs.Ytfjbodaakmapdaa
