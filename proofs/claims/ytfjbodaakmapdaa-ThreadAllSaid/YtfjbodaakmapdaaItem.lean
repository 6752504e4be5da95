/-
  The walk of thread.Item.
-/
import Derived.Test.YtfjbodaakmapdaaAlpha
namespace Go.Proofs.Ytfjbodaakmapdaa
open Go.RowKit Go.Shelf Th Kit Go.Proofs.YtfjbodaakmapdaaW.PrintWords
attribute [local go_sem] Oper.semAt_some

/-- Item's variables in memory, and that nothing else has changed. -/
structure ItS (b3 b9 b10 : Nat) (S : Nat → Prop) (W0 W : World) (k i : Nat) (out : ByteArray) : Prop where
  hk : Blk W b3 #[.int .i64 k] 3
  ho : Blk W b9 #[.string out] 9
  ha : Blk W b10 #[.int .i64 i] 3
  but : But S W0 W
theorem ItS.turn {b3 b9 b10 k i : Nat} {S : Nat → Prop} {W0 W W' : World} {out : ByteArray} {row : Option Nat} (h : ItS b3 b9 b10 S W0 W k i out) (hg : W.grownBy W' row) (hr : Turn W0.heap.size W row) : ItS b3 b9 b10 S W0 W' k i out :=
  ⟨h.hk.turn hg hr, h.ho.turn hg hr, h.ha.turn hg hr, h.but.turn hg hr⟩

def ItemPost (r1 : ByteArray) (r2 : Int) (w : World) (e : Ending) (w' : World) : Prop := e = .returned (.tuple #[.string r1, .int .i64 r2]) ∧ Below w.heap.size w w'

set_option maxRecDepth 100000 in
set_option maxHeartbeats 4000000 in
theorem item_walk (t : ByteArray) (k : Nat) (w : World) (ht : isW t = true) (hk : k < cn (bl t)) :
    Calls Try.prog 28 #[.string t, .int .i64 k] w (ItemPost (str (itm (bl t) k)) 0 w) := by
  obtain ⟨ht60, htl⟩ := (isW_iff t).1 ht
  have hcn := cn_60 (bl t) (by rw [bl_len]; exact ht60)
  have Ht := Lib.hid ht
  clear ht htl
  refine (callsIn_wide (n := 9)).1 ?_
  refine callsIn_of_wp_marks Try.func28 rfl trivial ?_ rfl
  simp only [Try.ntmps28, List.size_toArray, List.length_cons, List.length_nil, Nat.reduceAdd, Nat.reduceSub, Array.replicate_succ, Array.replicate_zero, List.push_toArray, List.append_toArray, List.nil_append, List.cons_append]
  refine wpIn_wide.2 ?_
  go_wp2_with fail
  refine (newWord_yes t _ Ht.out).mono ?_
  rintro e w1 ⟨rfl, hw1, hB1⟩
  have hk1 := (Blk.new w #[.int .i64 k] 3).below' hB1
  have hBw1 := (below_new w (.cells #[.int .i64 k] 3)).trans (hB1.mono (by simp))
  have hs1 := hB1.size
  simp only [World.size_alloc] at hw1 hB1 hs1 ⊢
  go_wp2_with fail
  have hp2 := Blk.new w1 #[.pointer (some ⟨w.heap.size + 1, 0, none⟩)] 67
  have hw2 := hw1.below (below_new w1 (.cells #[.pointer (some ⟨w.heap.size + 1, 0, none⟩)] 67))
  have hk2 := hk1.alloc (.cells #[.pointer (some ⟨w.heap.size + 1, 0, none⟩)] 67)
  have hBw2 := hBw1.trans ((below_new w1 (.cells #[.pointer (some ⟨w.heap.size + 1, 0, none⟩)] 67)).mono hBw1.size)
  refine (counts_any _ t _ hw2 ht60).mono ?_
  rintro e w3 ⟨hB3, cs, hcs, rfl⟩
  simp only [World.size_alloc] at hB3
  go_wp2_with (refine wpList_store_new rfl 82 (.tmp 8) (.tmp 23) rfl w3 _ 82 cs rfl rfl rfl (by rw [hcs.size]; rfl) (by rw [hcs.size]; kernel_rfl) hcs.one ?_; intro w4 hB5 hlt4 hblk; have c1 := (((hk2.below hB3 (by omega)).below' hB5).cell 0); have c2 := hblk.cell 0; rw [hcs.row 0 (by omega) (by omega)] at c2; simp only [List.drop_zero] at c2; simp only [List.getElem?_toArray, List.getElem?_cons_zero] at c1)
  refine (within_any _ _ _ true _ (by simp; omega)).mono ?_
  rintro e w4' ⟨rfl, rfl⟩
  have hk4 := (hk2.below hB3 (by omega)).below' hB5
  have hp4 := (hp2.below hB3 (by omega)).below' hB5
  have hw4 := (hw2.below (hB3.mono (by simp))).below hB5
  have hs3 := hB3.size
  simp only [World.size_alloc] at hs3
  have hB4 := hBw2.trans ((hB3.mono (by omega)).trans (hB5.mono (by omega)))
  have hcr := hcs.row
  clear hk1 hBw1 hw1 hB1 hp2 hw2 hk2 hBw2 hB3 hB5 c1 c2
  go_wp2_with fail
  have hk0 := (hk4.alloc (.cells #[.string ⟨#[]⟩] 9)).alloc (.cells #[.int .i64 0] 3)
  have hp0 := (hp4.alloc (.cells #[.string ⟨#[]⟩] 9)).alloc (.cells #[.int .i64 0] 3)
  have hn0 := (hblk.alloc (.cells #[.string ⟨#[]⟩] 9)).alloc (.cells #[.int .i64 0] 3)
  have ho0 := (Blk.new w4 #[.string ⟨#[]⟩] 9).alloc (.cells #[.int .i64 0] 3)
  have ha0 := Blk.new2 w4 (.cells #[.string ⟨#[]⟩] 9) #[.int .i64 0] 3
  have hw0 := (hw4.below (below_new w4 (.cells #[.string ⟨#[]⟩] 9))).below (below_new _ (.cells #[.int .i64 0] 3))
  have hB0 := hB4.trans ((below_new2 w4 (.cells #[.string ⟨#[]⟩] 9) (.cells #[.int .i64 0] 3)).mono hB4.size)
  generalize (w4.alloc (.cells #[.string ⟨#[]⟩] 9)).alloc (.cells #[.int .i64 0] 3) = W0 at hk0 hp0 hn0 ho0 ha0 hw0 hB0 ⊢
  clear hk4 hp4 hblk hw4 hB4
  obtain ⟨S, hS⟩ : ∃ S : Nat → Prop, S = fun b => b = w.heap.size ∨ b = w4.heap.size ∨ b = w4.heap.size + 1 := ⟨_, rfl⟩
  have HS := Lib.hid hS
  clear hS
  refine wp_loop (fun a wr => ∃ (u30 u31 u32 u33 u34 : Value) (ds : List Deferred) (q i top : Nat) (pre : List Nat),
    a = { tmps := #[Value.string t, Value.int IntKind.i64 ↑k, undef, Value.pointer (some ⟨w.heap.size, 0, none⟩), Value.string { data := #[] }, Value.int IntKind.i64 0, Value.pointer (some ⟨w1.heap.size, 0, none⟩), Value.bool true, Value.pointer (some ⟨w3.heap.size, 0, none⟩), Value.pointer (some ⟨w4.heap.size, 0, none⟩), Value.pointer (some ⟨w4.heap.size + 1, 0, none⟩), undef, undef, undef, undef, Value.tuple #[Value.pointer (some ⟨w.heap.size + 1, 0, none⟩), Value.bool true], Value.string t, Value.tuple #[Value.pointer (some ⟨w.heap.size + 1, 0, none⟩), Value.bool true], Value.pointer (some ⟨w.heap.size + 1, 0, none⟩), Value.bool true, Value.bool true, Value.bool false, Value.pointer (some ⟨w.heap.size + 1, 0, none⟩), Value.agg cs, Value.int IntKind.i64 ↑k, Value.pointer (some ⟨w3.heap.size, 0, none⟩), Value.int IntKind.i64 ↑(cn (bl t)), Value.int IntKind.i64 (↑(cn (bl t)) - 1), Value.bool true, Value.bool false, u30, u31, u32, u33, u34, undef, undef, undef, undef, undef, undef, undef, undef, undef, undef, undef, undef, undef, undef, undef, undef, undef, undef, undef, undef, undef, undef, undef, undef, undef, undef], defers := ds } ∧ Blk wr w.heap.size #[.int .i64 q] 3 ∧ Blk wr w4.heap.size #[.string (str pre)] 9 ∧ Blk wr (w4.heap.size + 1) #[.int .i64 i] 3 ∧
    i ≤ t.size ∧ q < cn ((bl t).drop i) ∧ itm (bl t) k = pre ++ itm ((bl t).drop i) q ∧ pre.length ≤ i ∧ But S W0 wr ∧ Marks W0.heap.size wr ds top ∧ top ≤ wr.heap.size)
    (fun _ wr => (intOf ((wr.cell? ⟨w.heap.size, 0, none⟩).getD undef)).toNat) ?_ ?_
  · exact ⟨_, _, _, _, _, [], k, 0, 0, [], rfl, hk0, ho0, ha0, Nat.zero_le _, by simpa using hk, by simp, Nat.le_refl _, But.refl _ _, trivial, Nat.zero_le _⟩
  rintro a wr ⟨u30, u31, u32, u33, u34, ds, q, i, top, pre, rfl, hk1, ho1, ha1, hi, hq, hit, hpi, hBt, hM, htop⟩
  have Hit := Lib.hid hit
  clear hit
  by_cases hq0 : q = 0
  · subst hq0
    have hit' := Hit.out
    rw [itm_zero, List.append_nil] at hit'
    have Hit2 := Lib.hid hit'
    clear hit'
    have c1 := hk1.cell 0
    have c2 := ho1.cell 0
    simp only [List.getElem?_toArray, List.getElem?_cons_zero] at c1 c2
    go_wp2
    refine leaves_marks (v := .tuple #[.string (str pre), .int .i64 0]) ds wr top hM (fun w' => results_tmp2 (t := 4) (u := 5) rfl _ _ _) (fun w' hb => ⟨?_, ?_⟩)
    · rw [Hit2.out]
    · have h1 := hBt.below hB0.size (fun k hk => by
        rw [HS.out] at hk
        omega)
      exact (hB0.trans h1).trans (hb.mono hB0.size)
  · have c1 := hk1.cell 0
    have c2 := hk1.frozen 0
    simp only [List.getElem?_toArray, List.getElem?_cons_zero] at c1
    have Hc1 := Lib.hid c1
    have hq1 : 0 < (q : Int) := by omega
    have hq60 : q ≤ 1152921504606846976 := by
      have := cn_60 ((bl t).drop i) (by rw [List.length_drop, bl_len]; omega)
      omega
    go_wp2_with fail
    refine (callsIn_wide.1 (alphabet_in Fence.wide 8 trivial rfl 4 _)).mono ?_
    rintro e w2 ⟨rfl, rfl⟩
    have hk2 := (hk1.set 0 (.int .i64 (q - 1))).alloc (.cells #[.int .i64 4] 3)
    have ho2 := (ho1.other ⟨w.heap.size, 0, none⟩ (by simp; omega) (.int .i64 (q - 1))).alloc (.cells #[.int .i64 4] 3)
    have ha2 := (ha1.other ⟨w.heap.size, 0, none⟩ (by simp; omega) (.int .i64 (q - 1))).alloc (.cells #[.int .i64 4] 3)
    have hBt2 := ((hBt.set (p := ⟨w.heap.size, 0, none⟩) (.inl (by rw [HS.out]; exact .inl rfl)) (.int .i64 (q - 1))).alloc (.cells #[.int .i64 4] 3))
    have hM2 := (hM.set ⟨w.heap.size, 0, none⟩ (.int .i64 (q - 1))).alloc (.cells #[.int .i64 4] 3)
    have hb2 := Blk.new (wr.setCell ⟨w.heap.size, 0, none⟩ (.int .i64 (q - 1))) #[.int .i64 4] 3
    have hsz : ((wr.setCell ⟨w.heap.size, 0, none⟩ (.int .i64 (q - 1))).alloc (.cells #[.int .i64 4] 3)).heap.size = wr.heap.size + 1 := by simp
    simp only [World.size_setCell] at hb2
    generalize (wr.setCell ⟨w.heap.size, 0, none⟩ (.int .i64 (q - 1))).alloc (.cells #[.int .i64 4] 3) = W2 at hk2 ho2 ha2 hBt2 hM2 hb2 hsz ⊢
    clear hk1 ho1 ha1 hBt hM c1 c2
    go_wp2
    have c4 := hb2.cell 0
    simp only [List.getElem?_toArray, List.getElem?_cons_zero] at c4
    refine (wpIn_wide (n := 9)).1 ?_
    refine wpIn_rangeFunc_ownG (F := Fence.wide) (n := 9) rfl (by omega) (gf := 64) (lb := #[.pointer (some ⟨wr.heap.size, 0, none⟩)]) rfl trivial (enters_of Try.func64 (by kernel_rfl) rfl)
      (alpha_stops Fence.wide 8 trivial rfl (by omega) wr.heap.size 4 (by omega) W2 (by omega) c4) (fun _ _ => trivial) (fun _ _ _ _ _ _ _ _ => trivial) (Below.refl _ _) (fun _ => rfl)
      (fun pr W => smp ((bl t).drop i) pr ≤ q - 1 ∧ ItS w.heap.size w4.heap.size (w4.heap.size + 1) S W2 W (q - 1 - smp ((bl t).drop i) pr) i (str pre))
      (fun c pr W => c = .exit 2 ∧ ∃ (p : List (Fin 4)) (x : Fin 4), pr = p ++ [x] ∧ smp ((bl t).drop i) p ≤ q - 1 ∧ q - 1 < smp ((bl t).drop i) p + tm ((bl t).drop i) x.val ∧
        ItS w.heap.size w4.heap.size (w4.heap.size + 1) S W2 W (q - 1 - smp ((bl t).drop i) p) (nx (bl t) x.val i + 1) (str (pre ++ [97 + x.val])))
      (fun s A B row hs hg hr => ⟨hs.1, hs.2.turn hg hr⟩)
      (fun c s A B row hs hg hr => by obtain ⟨hc, p, x, e, h1, h2, h3⟩ := hs; exact ⟨hc, p, x, e, h1, h2, h3.turn hg hr⟩)
      ⟨Nat.zero_le _, ?h0, ho2, ha2, But.refl _ _⟩
      (fun x => { tmps := #[Value.string t, Value.int IntKind.i64 ↑k, undef, Value.pointer (some ⟨w.heap.size, 0, none⟩), Value.string { data := #[] }, Value.int IntKind.i64 0, Value.pointer (some ⟨w1.heap.size, 0, none⟩), Value.bool true, Value.pointer (some ⟨w3.heap.size, 0, none⟩), Value.pointer (some ⟨w4.heap.size, 0, none⟩), Value.pointer (some ⟨w4.heap.size + 1, 0, none⟩), Value.int IntKind.i64 (x.val : Int), Value.string (letter x.val), undef, undef, Value.tuple #[Value.pointer (some ⟨w.heap.size + 1, 0, none⟩), Value.bool true], Value.string t, Value.tuple #[Value.pointer (some ⟨w.heap.size + 1, 0, none⟩), Value.bool true], Value.pointer (some ⟨w.heap.size + 1, 0, none⟩), Value.bool true, Value.bool true, Value.bool false, Value.pointer (some ⟨w.heap.size + 1, 0, none⟩), Value.agg cs, Value.int IntKind.i64 ↑k, Value.pointer (some ⟨w3.heap.size, 0, none⟩), Value.int IntKind.i64 ↑(cn (bl t)), Value.int IntKind.i64 (↑(cn (bl t)) - 1), Value.bool true, Value.bool false, Value.int IntKind.i64 ↑q, Value.bool true, Value.int IntKind.i64 ↑q, Value.int IntKind.i64 (↑q - 1), Value.func (Fn.func 64) #[] #[Value.pointer (some ⟨wr.heap.size, 0, none⟩)], Value.int IntKind.i64 (x.val : Int), Value.string (letter x.val), undef, undef, undef, undef, undef, undef, undef, undef, undef, undef, undef, undef, undef, undef, undef, undef, undef, undef, undef, undef, undef, undef, undef, undef], defers := [] }) ?assign ?body ?done ?stop
    case h0 =>
      rw [show ((q - 1 - smp (List.drop i (bl t)) ([] : List (Fin 4)) : Nat) : Int) = (q : Int) - 1 from by simp [smp]; omega]
      exact hk2
    case assign =>
      intro l x W K hK
      gi_wp2
      exact hK
    case body =>
      rintro l pr x W ⟨hsm, hI⟩ _
      have hbt := hBt2.trans hI.but
      have hx4 := x.isLt
      have hn1 : ¬ S w1.heap.size := by rw [HS.out]; omega
      have hn3 : ¬ S w3.heap.size := by rw [HS.out]; omega
      have hnw : ¬ S (w.heap.size + 1) := by rw [HS.out]; omega
      have cp := (hp0.but hbt hn1).cell 0
      have ck := hI.hk.cell 0
      have co := hI.ho.cell 0
      have ca := hI.ha.cell 0
      have fk := hI.hk.frozen 0
      have fo := hI.ho.frozen 0
      have fa := hI.ha.frozen 0
      have hnW := hn0.but hbt hn3
      have hwW := hw0.but hbt hnw
      simp only [List.getElem?_toArray, List.getElem?_cons_zero] at cp ck co ca
      clear hn1 hn3 hnw
      by_cases hn : nx (bl t) x.val i < t.size
      · have hge := nx_ge (bl t) x.val i
        have htm : tm ((bl t).drop i) x.val = cn ((bl t).drop (nx (bl t) x.val i + 1)) := by
          rw [tm_nx, if_pos (by rw [bl_len]; exact hn)]
        have Htm := Lib.hid htm
        clear htm
        have cc : W.cell? ⟨w3.heap.size, nx (bl t) x.val i + 1, none⟩ = some (.int .i64 (cn ((bl t).drop (nx (bl t) x.val i + 1)))) := by
          rw [hnW.cell]; exact hcr _ (by omega) (by omega)
        have hcb := cn_60 ((bl t).drop (nx (bl t) x.val i + 1)) (by rw [List.length_drop, bl_len]; omega)
        by_cases hlt : q - 1 - smp ((bl t).drop i) pr < cn ((bl t).drop (nx (bl t) x.val i + 1))
        · gi_wp2_with (first | (refine round_call (after_any _ t _ _ i x.val true _ hwW ht60 rfl rfl hi hx4 (by simpa using hn)) ?_; rintro e w' ⟨rfl, nq, rfl⟩))
          refine wpIn_region_quiet_round (by kernel_rfl) (by kernel_rfl) (by kernel_rfl) ?_
          repeat (gi_big_quiet_step (fail))
          refine wpQuietIn_nil ?_
          rintro _ ⟨nq2, rfl⟩
          have hps : (str pre).size + (letter x.val).size ≤ 9223372036854775807 := by
            rw [letter_eq, str_size, str_size]; simp; omega
          gi_wp2
          refine ⟨(((keepsO_drewN W _).trans (KeepsOthers.setCell _ _ _)).trans (KeepsOthers.setCell _ _ _)).from _, rfl, pr, x, rfl, hsm, by rw [Htm.out]; omega, ?_, ?_, ?_, ?_⟩
          · exact ((hI.hk.drewN _).other _ (by simp; omega) _).other _ (by simp; omega) _
          · exact (((hI.ho.drewN _).set1 _).other _ (by simp) _).as (by rw [letter_eq, str_append])
          · exact (((hI.ha.drewN _).other _ (by simp) _).set1 _).as (one_int (by omega))
          · exact ((hI.but.drewN _).set (.inl (by rw [HS.out]; simp)) _).set (.inl (by rw [HS.out]; simp)) _
        · gi_wp2_with (first | (refine round_call (after_any _ t _ _ i x.val true _ hwW ht60 rfl rfl hi hx4 (by simpa using hn)) ?_; rintro e w' ⟨rfl, nq, rfl⟩))
          refine wpIn_region_quiet_round (by kernel_rfl) (by kernel_rfl) (by kernel_rfl) ?_
          repeat (gi_big_quiet_step (fail))
          refine wpQuietIn_nil ?_
          rintro _ ⟨nq2, rfl⟩
          gi_wp2
          have e1 : IntKind.i64.wrap (((q - 1 - smp ((bl t).drop i) pr : Nat) : Int) - (cn ((bl t).drop (nx (bl t) x.val i + 1)) : Nat)) = ((q - 1 - smp ((bl t).drop i) pr : Nat) : Int) - (cn ((bl t).drop (nx (bl t) x.val i + 1)) : Nat) := IntWalk.i64_in _ (by omega)
          have hmix : Try.prog.follows .mixedOrders = true := by kernel_rfl
          gi_region_with_o (fail)
          all_goals gi_wp2
          all_goals
            refine ⟨((keepsO_drewN W _).trans (KeepsOthers.setCell _ _ _)).from _, trivial, by rw [smp_snoc, Htm.out]; omega, ?_, ?_, ?_, ?_⟩
            · exact ((hI.hk.drewN _).set1 _).as (one_int (by rw [smp_snoc, Htm.out]; omega))
            · exact (hI.ho.drewN _).other _ (by simp; omega) _
            · exact (hI.ha.drewN _).other _ (by simp; omega) _
            · exact (hI.but.drewN _).set (.inl (by rw [HS.out]; simp)) _
      · gi_wp2_with
 (first | (refine round_call (after_any _ t _ _ i x.val false _ hwW ht60 rfl rfl hi hx4 (by simpa using hn)) ?_; rintro e w' ⟨rfl, nq, rfl⟩))
        have hz : tm ((bl t).drop i) x.val = 0 := by rw [tm_nx, if_neg (by rw [bl_len]; exact hn)]
        refine ⟨(keepsO_drewN W _).from _, trivial, by rw [smp_snoc, hz]; omega, ?_, hI.ho.drewN _, hI.ha.drewN _, hI.but.drewN _⟩
        exact (hI.hk.drewN _).as (one_int (by rw [smp_snoc, hz, Nat.add_zero]))
    case done =>
      rintro D xs W _ rfl ⟨hsm, _⟩ _
      have := smp_take ((bl t).drop i) 4 (by omega)
      rw [List.take_of_length_le (by simp), ← cn_eq] at this
      omega
    case stop =>
      rintro D c pr W hD hpre ⟨rfl, p, x, rfl, hs1, hs2, hI⟩ hK
      have hp := prefix_snoc hpre
      have hx4 := x.isLt
      have hst := smp_take ((bl t).drop i) x.val (by omega)
      rw [← hp] at hst
      have hnx : nx (bl t) x.val i < t.size := by
        by_cases h : nx (bl t) x.val i < t.size
        · exact h
        · rw [tm_nx, if_neg (by rw [bl_len]; exact h)] at hs2; omega
      have htm : tm ((bl t).drop i) x.val = cn ((bl t).drop (nx (bl t) x.val i + 1)) := by
        rw [tm_nx, if_pos (by rw [bl_len]; exact hnx)]
      have hge := nx_ge (bl t) x.val i
      have hsel : sel ((bl t).drop i) q = x.val := sel_of hx4 (by omega) (by rw [pc]; omega)
      have hstep := itm_step (by omega) hq
      rw [hsel, List.drop_drop, show i + (fnd x.val ((bl t).drop i) + 1) = nx (bl t) x.val i + 1 by rw [nx_drop]; omega, ← hst] at hstep
      have hit' := Hit.out
      rw [hstep] at hit'
      have hDlt : D < W.heap.size := (Array.getElem?_eq_some_iff.1 hK).1
      have hMW := hM2.but hI.but (by omega) (fun D hD hs => by
        rw [HS.out] at hs
        rcases hs with rfl | rfl | rfl
        · rw [hk2.out] at hD; cases hD
        · rw [ho2.out] at hD; cases hD
        · rw [ha2.out] at hD; cases hD)
      have hs0 := hBt2.size
      have cW := hI.hk.cell 0
      simp only [List.getElem?_toArray, List.getElem?_cons_zero] at cW
      have HcW := Lib.hid cW
      have hq' : q - 1 - smp ((bl t).drop i) p < cn ((bl t).drop (nx (bl t) x.val i + 1)) := by rw [htm] at hs2; omega
      clear hst htm hsel hstep hs1 hp cW
      gi_wp2
      refine ⟨⟨_, _, _, _, _, _, q - 1 - smp ((bl t).drop i) p, nx (bl t) x.val i + 1, D + 1, pre ++ [97 + x.val], rfl, hI.hk, hI.ho, hI.ha, by omega, hq', ?_, by simp; omega, hBt2.trans hI.but, ?_, hDlt⟩, ?_⟩
      · rw [hit', show q - (smp ((bl t).drop i) p + 1) = q - 1 - smp ((bl t).drop i) p by omega]; simp
      · exact ⟨D, rfl, by omega, by omega, hK, hMW.up (by omega)⟩
      · rw [HcW.out, Hc1.out]; simp [intOf]; omega

theorem item_no1 (t : ByteArray) (k : Int) (w : World) (ht : isW t = false) : Calls Try.prog 28 #[.string t, .int .i64 k] w (ItemPost ⟨#[]⟩ 2 w) := by
  have Ht := Lib.hid ht
  clear ht
  go_enter Try.func28, Try.ntmps28
  go_wp2_with fail
  refine (newWord_no t _ Ht.out).mono ?_
  rintro e w1 ⟨rfl, hB1⟩
  have hBw1 := (below_new w (.cells #[.int .i64 k] 3)).trans (hB1.mono (by simp))
  clear hB1
  go_wp2
  go_ret2
  exact ⟨rfl, hBw1.trans ((below_new w1 _).mono hBw1.size)⟩

set_option maxRecDepth 100000 in
theorem item_no2 (t : ByteArray) (k : Int) (w : World) (ht : isW t = true) (hk : ¬ (0 ≤ k ∧ k < cn (bl t))) : Calls Try.prog 28 #[.string t, .int .i64 k] w (ItemPost ⟨#[]⟩ 2 w) := by
  obtain ⟨ht60, htl⟩ := (isW_iff t).1 ht
  have hcn := cn_60 (bl t) (by rw [bl_len]; exact ht60)
  have hcp := cn_pos (bl t)
  have Ht := Lib.hid ht
  clear ht htl
  go_enter Try.func28, Try.ntmps28
  go_wp2_with fail
  refine (newWord_yes t _ Ht.out).mono ?_
  rintro e w1 ⟨rfl, hw1, hB1⟩
  have hk1 := (Blk.new w #[.int .i64 k] 3).below' hB1
  have hBw1 := (below_new w (.cells #[.int .i64 k] 3)).trans (hB1.mono (by simp))
  have hs1 := hB1.size
  simp only [World.size_alloc] at hw1 hB1 hs1 ⊢
  go_wp2_with fail
  have hw2 := hw1.below (below_new w1 (.cells #[.pointer (some ⟨w.heap.size + 1, 0, none⟩)] 67))
  have hk2 := hk1.alloc (.cells #[.pointer (some ⟨w.heap.size + 1, 0, none⟩)] 67)
  have hBw2 := hBw1.trans ((below_new w1 (.cells #[.pointer (some ⟨w.heap.size + 1, 0, none⟩)] 67)).mono hBw1.size)
  refine (counts_any _ t _ hw2 ht60).mono ?_
  rintro e w3 ⟨hB3, cs, hcs, rfl⟩
  simp only [World.size_alloc] at hB3
  go_wp2_with (refine wpList_store_new rfl 82 (.tmp 8) (.tmp 23) rfl w3 _ 82 cs rfl rfl rfl (by rw [hcs.size]; rfl) (by rw [hcs.size]; kernel_rfl) hcs.one ?_; intro w4 hB5 hlt4 hblk; have c1 := (((hk2.below hB3 (by omega)).below' hB5).cell 0); have c2 := hblk.cell 0; rw [hcs.row 0 (by omega) (by omega)] at c2; simp only [List.drop_zero] at c2; simp only [List.getElem?_toArray, List.getElem?_cons_zero] at c1)
  refine (within_any _ _ _ false _ (by simp; omega)).mono ?_
  rintro e w4' ⟨rfl, rfl⟩
  have hs3 := hB3.size
  simp only [World.size_alloc] at hs3
  have hB4 := hBw2.trans ((hB3.mono (by omega)).trans (hB5.mono (by omega)))
  clear hk1 hBw1 hw1 hB1 hw2 hk2 hBw2 hB3 hB5 c1 c2
  go_wp2
  go_ret2
  exact ⟨rfl, hB4⟩

def Given.thread_Item.f (w : ByteArray) (k : Int) : Option (ByteArray × Int) :=
  some (if isW w = true then (if 0 ≤ k ∧ k < cn (bl w) then (str (itm (bl w) k.toNat), 0) else (⟨#[]⟩, 2)) else (⟨#[]⟩, 2))

theorem Given.thread_Item.calls (a0 : ByteArray) (a1 : Int) (r1 : ByteArray) (r2 : Int) (w : World) (h : Given.thread_Item.f a0 a1 = some (r1, r2)) :
    Calls Try.prog 28 #[.string a0, .int .i64 a1] w fun e w' => e = .returned (.tuple #[.string r1, .int .i64 r2]) ∧ Below w.heap.size w w' := by
  show Calls Try.prog 28 #[.string a0, .int .i64 a1] w (ItemPost r1 r2 w)
  unfold Given.thread_Item.f at h
  cases hu : isW a0 with
  | false =>
    rw [hu] at h
    obtain ⟨rfl, rfl⟩ : (⟨#[]⟩ : ByteArray) = r1 ∧ (2 : Int) = r2 := by simpa using h
    exact item_no1 a0 a1 w hu
  | true =>
    rw [hu, if_pos rfl] at h
    by_cases hk : 0 ≤ a1 ∧ a1 < cn (bl a0)
    · rw [if_pos hk] at h
      obtain ⟨rfl, rfl⟩ : str (itm (bl a0) a1.toNat) = r1 ∧ (0 : Int) = r2 := by simpa using h
      obtain ⟨n, rfl⟩ := Int.eq_ofNat_of_zero_le hk.1
      exact item_walk a0 n w hu (by have := hk.2; omega)
    · rw [if_neg hk] at h
      obtain ⟨rfl, rfl⟩ : (⟨#[]⟩ : ByteArray) = r1 ∧ (2 : Int) = r2 := by simpa using h
      exact item_no2 a0 a1 w hu hk
end Go.Proofs.Ytfjbodaakmapdaa
