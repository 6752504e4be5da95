/-
  The walk of thread.marks.after.
-/
import Derived.Test.YtfjbodaakmapdaaFam
namespace Go.Proofs.Ytfjbodaakmapdaa
open Go.RowKit Go.Shelf Th Kit Go.Proofs.YtfjbodaakmapdaaW.PrintWords

def mksA (m : List Nat) : Array Value := (m.map fun x : Nat => Value.int .i64 x).toArray
def mksV (m : List Nat) : Value := .agg (mksA m)
def okK (m : List Nat) : Prop := m.length = 4 ∧ ∀ x ∈ m, x < 100
theorem kfMks : KF Try.prog 92 mksV okK where
  law := keyed92
  key m h := by
    obtain ⟨hl, hb⟩ := h
    match m, hl with
    | [a, b, c, d], _ => exact key92 a b c d (hb a (by simp)) (hb b (by simp)) (hb c (by simp)) (hb d (by simp))
  inj p q h := by
    simp only [mksV, mksA, Value.agg.injEq] at h
    have h2 := congrArg Array.toList h
    simp only at h2
    refine (List.map_inj_right (fun a b e => ?_)).1 h2
    simp only [Value.int.injEq, true_and] at e
    omega

theorem mksA_size (m : List Nat) : (mksA m).size = m.length := by simp [mksA]
theorem mksA_get (m : List Nat) (i : Nat) (h : i < m.length) : (mksA m)[i]? = some (.int .i64 (m[i] : Nat)) := by simp [mksA, h]
theorem mksA_set (m : List Nat) (i x : Nat) : (mksA m).setIfInBounds i (.int .i64 x) = mksA (m.set i x) := by
  simp [mksA, List.map_set]
theorem mksA_one (m : List Nat) : OneC (mksA m) := by
  unfold OneC mksA
  simp [Value.oneCell']

/-- The marks after a further letter. -/
def mgo (c : Nat) : List (List Nat) → List Nat → Nat → List Nat × Bool
  | [], m, _ => (m, true)
  | w :: ws, m, i => if w.getD (m.getD i 0) 0 = c then (if m.getD i 0 + 1 = w.length then (m.set i (m.getD i 0 + 1), false) else mgo c ws (m.set i (m.getD i 0 + 1)) (i + 1)) else mgo c ws m (i + 1)

/-- Marks of a family: none is complete. -/
def okm (l : List ByteArray) (m : List Nat) : Prop := m.length = 4 ∧ ∀ i (s : ByteArray), l[i]? = some s → m.getD i 0 < s.size

theorem results_after (tmps : Array Value) (w : World) (b : Nat) (cs : Array Value) (hp : tmps.getD 6 undef = .pointer (some ⟨b, 0, none⟩)) (hb : Blk w b cs 92) (hs : cs.size = 4) :
    (results Try.f60 tmps).run Try.prog w = .ok (.tuple #[.agg cs, tmps.getD 7 undef]) w := by
  rw [results_cell_tmp rfl, hp]
  simp only [asAddr, Sem.run_pure, Result.andThen_ok]
  rw [run_loadVar_row w b 92 92 cs (0, 0) _ hb.out Try.underlying92 rfl (by rw [hs]; kernel_rfl)]
  rfl

set_option maxRecDepth 100000 in
set_option maxHeartbeats 1000000 in
theorem mafter_any (A : Option Addr) (cp : Nat) (l : List ByteArray) (m : List Nat) (c : Nat) (w : World) (hr : SR w A l) (hl4 : l.length ≤ 4) (hl8 : ∀ s ∈ l, s.size ≤ 8) (hm : okm l m) :
    Calls Try.prog 60 #[mksV m, .slice A l.length cp, .int .u8 c] w fun e w' => e = .returned (.tuple #[mksV (mgo c (l.map bl) m 0).1, .bool (mgo c (l.map bl) m 0).2]) ∧ Below w.heap.size w w' := by
  have hm4 := hm.1
  have hz : (mksA m).size = 4 := by rw [mksA_size, hm4]
  have Hz := Lib.hid hz
  have Hm := Lib.hid hm
  clear hm hz
  show Calls Try.prog 60 #[.agg (mksA m), .slice A l.length cp, .int .u8 c] w _
  go_enter Try.func60, Try.ntmps60
  go_wp2
  go_loopw [12] (fun v wr => ∃ (i : Nat) (m' : List Nat), v = .int .i64 i ∧ i ≤ l.length ∧ Aside0 (mgo c (l.map bl) m 0 = mgo c ((l.drop i).map bl) m' i) ∧ Aside0 (okm l m') ∧ Aside0 (Below w.heap.size w wr) ∧ Blk wr w.heap.size (mksA m') 92 ∧ ∃ z, Blk wr (w.heap.size + 1) z 92 ∧ z.size = 4) (fun v _ => l.length - (intOf v).toNat)
  case atStart =>
    exact ⟨0, m, rfl, Nat.zero_le _, ⟨by simp⟩, ⟨Hm.out⟩, ⟨below_new2 _ _ _⟩, (Blk.new w (mksA m) 92).alloc _, _, Blk.new2 w _ _ 92, rfl⟩
  case round =>
    obtain ⟨i, m', rfl, hi, HG, HO, HB, hb, z, hz, hz4⟩ := hrel
    have Hz4 := Lib.hid hz4
    have hm'4 := HO.out.1
    have hA : (mksA m').size = 4 := by rw [mksA_size, hm'4]
    have HA := Lib.hid hA
    clear hz4 hA
    by_cases hlt : i < l.length
    · obtain ⟨s, hs⟩ : ∃ s, l[i]? = some s := ⟨_, List.getElem?_eq_getElem hlt⟩
      obtain ⟨ad, rfl, hc0⟩ := (hr.below HB.out).at_ i s hs
      have hx := HO.out.2 i s hs
      have hs8 := hl8 s (List.mem_of_getElem? hs)
      have hgd : m'.getD i 0 = m'[i]'(by omega) := by
        rw [List.getD_eq_getElem?_getD, List.getElem?_eq_getElem (by omega)]; rfl
      have hcm : wr.cell? ⟨w.heap.size, i, none⟩ = some (.int .i64 (m'.getD i 0 : Nat)) := by
        rw [hb.cell, mksA_get m' i (by omega), hgd]
      have hfm := hb.frozen i
      have hd : (l.drop i).map bl = bl s :: (l.drop (i + 1)).map bl := by
        obtain ⟨h1, h2⟩ := List.getElem?_eq_some_iff.1 hs
        rw [List.drop_eq_getElem_cons h1, h2]; rfl
      have hbg : (bl s).getD (m'.getD i 0) 0 = s[m'.getD i 0].toNat := by
        rw [List.getD_eq_getElem?_getD, List.getElem?_eq_getElem (by rw [bl_len]; exact hx), Option.getD_some, bl_get s _ hx]
      have Hd := Lib.hid hd
      have Hs := Lib.hid hs
      have Hbg := Lib.hid hbg
      have Hgd := Lib.hid hgd
      clear hd hs hbg hgd
      generalize hxx : m'.getD i 0 = x at *
      have Hx := Lib.hid hxx
      clear hxx
      have hi4 : (i : Int) < 4 := by omega
      by_cases hq : (s[x].toNat : Int) = (c : Int)
      · have hb2 := (hb.set i (.int .i64 ((x : Int) + 1))).as (by rw [show ((x : Int) + 1) = ((x + 1 : Nat) : Int) by omega, mksA_set])
        have hz2 := hz.other ⟨w.heap.size, i, none⟩ (by simp) (.int .i64 ((x : Int) + 1))
        have hA2 : (mksA (m'.set i (x + 1))).size = 4 := by rw [mksA_size, List.length_set, hm'4]
        have HA2 := Lib.hid hA2
        have hstep : mgo c ((l.drop i).map bl) m' i = if x + 1 = s.size then (m'.set i (x + 1), false) else mgo c ((l.drop (i + 1)).map bl) (m'.set i (x + 1)) (i + 1) := by
          rw [Hd.out, mgo, Hx.out, Hbg.out, if_pos (by omega), bl_len]
        have Hstep := Lib.hid hstep
        clear hA2 hstep
        by_cases hend : (x : Int) + 1 = (s.size : Int)
        · rw [hend] at hb2 hz2
          go_wp2_with (first | (refine wpList_load_row rfl 92 (.tmp 3) rfl w.heap.size rfl 92 _ (0, 0) _ hb2.out Try.underlying92 rfl (by rw [HA2.out]; kernel_rfl) ?_) | (refine wpList_store_mid rfl 92 (.tmp 6) (.tmp 35) rfl (w.heap.size + 1) 0 _ rfl rfl (hz2.there (by rw [Hz4.out, HA2.out]; omega)) (by rw [HA2.out]; kernel_rfl) (mksA_one _) ?_))
          have hb3 := hz2.puts (mksA (m'.set i (x + 1))).toList 0
          rw [put_all _ _ (by rw [Hz4.out, HA2.out])] at hb3
          refine bodyPost_ret (results_after _ _ (w.heap.size + 1) _ rfl hb3 HA2.out) rfl ?_
          have h := Hstep.out
          rw [if_pos (by omega)] at h
          rw [HG.out, h]
          exact ⟨rfl, below_setCells _ _ (by simp) ((HB.out).setCell (by simp) _)⟩
        · go_wp2
          go_roundw
          case rel =>
            refine ⟨i + 1, m'.set i (x + 1), by go_num, by omega, ⟨?_⟩, ⟨?_⟩, ⟨(HB.out).setCell (by simp) _⟩, hb2, z, hz2, Hz4.out⟩
            · have h := Hstep.out
              rw [if_neg (by omega)] at h
              rw [HG.out, h]
            · refine ⟨by rw [List.length_set, hm'4], fun j s' hs' => ?_⟩
              by_cases hj : j = i
              · subst hj
                rw [Hs.out] at hs'
                cases hs'
                rw [List.getD_eq_getElem?_getD, List.getElem?_set_self (by omega)]; simp; omega
              · rw [List.getD_eq_getElem?_getD, List.getElem?_set_ne (by omega), ← List.getD_eq_getElem?_getD]
                exact HO.out.2 j s' hs'
          case measure => simp [intOf]; omega
      · go_wp2
        go_roundw
        case rel =>
          refine ⟨i + 1, m', by go_num, by omega, ⟨?_⟩, HO, HB, hb, z, hz, Hz4.out⟩
          rw [HG.out, Hd.out, mgo, Hx.out, Hbg.out, if_neg (by omega)]
        case measure => simp [intOf]; omega
    · obtain rfl : i = l.length := by omega
      go_wp2_with (first | (refine wpList_load_row rfl 92 (.tmp 3) rfl w.heap.size rfl 92 _ (0, 0) _ hb.out Try.underlying92 rfl (by rw [HA.out]; kernel_rfl) ?_) | (refine wpList_store_mid rfl 92 (.tmp 6) (.tmp 37) rfl (w.heap.size + 1) 0 _ rfl rfl (hz.there (by rw [Hz4.out, HA.out]; omega)) (by rw [HA.out]; kernel_rfl) (mksA_one _) ?_))
      have hb3 := hz.puts (mksA m').toList 0
      rw [put_all _ _ (by rw [Hz4.out, HA.out])] at hb3
      refine bodyPost_ret (results_after _ _ (w.heap.size + 1) _ rfl hb3 HA.out) rfl ?_
      rw [HG.out, List.drop_length, List.map_nil, mgo]
      exact ⟨rfl, below_setCells _ _ (by simp) HB.out⟩
end Go.Proofs.Ytfjbodaakmapdaa
