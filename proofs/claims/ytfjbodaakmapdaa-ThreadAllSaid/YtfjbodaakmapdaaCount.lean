/-
  The walks of thread.after and thread.counts.
-/
import Derived.Test.YtfjbodaakmapdaaWord
namespace Go.Proofs.Ytfjbodaakmapdaa
open Go.RowKit Th Kit

set_option maxHeartbeats 400000 in
theorem after_any (b : Nat) (s : ByteArray) (i c : Int) (i' c' : Nat) (r : Bool) (w : World) (hw : IsWord w b s) (h60 : s.size ≤ 60) (hi : i = i') (hc : c = c') (hi' : i' ≤ s.size) (hc' : c' < 4)
    (hr : decide (nx (bl s) c' i' < s.size) = r) :
    Calls Try.prog 47 #[.pointer (some ⟨b, 0, none⟩), .int .i64 i, .int .i64 c] w fun e w' => e = .returned (.tuple #[.int .i64 (nx (bl s) c' i' + 1), .bool r]) ∧ ∃ n, w' = w.drewN n := by
  subst hi hc hr
  have hle := nx_le (bl s) c' i' (by rw [bl_len]; exact hi')
  rw [bl_len] at hle
  have h1 := hw.next i' c' hi' hc'
  have h2 := hw.text
  obtain ⟨n, hn⟩ : ∃ n, n = nx (bl s) c' i' := ⟨_, rfl⟩
  rw [← hn] at h1 hle ⊢
  clear hn hw
  have e1 : IntKind.i64.wrap ((n : Int) + 1) = (n : Int) + 1 := IntWalk.i64_in _ (by omega)
  go_enter Try.func47, Try.ntmps47
  go_wp2
  go_quiet (fail)
  go_wp2
  go_ret2
  exact ⟨rfl, _, rfl⟩

/-- The array of counts. -/
structure CB (s : ByteArray) (m : Nat) (cs : Array Value) : Prop where
  size : cs.size = 61
  one : OneC cs
  row : ∀ r, m ≤ r → r ≤ s.size → cs[r]? = some (.int .i64 (cn ((bl s).drop r)))

def CountsPost (s : ByteArray) (w : World) (e : Ending) (w' : World) : Prop := Below w.heap.size w w' ∧ ∃ cs, CB s 0 cs ∧ e = .returned (.agg cs)

set_option maxRecDepth 100000 in
set_option maxHeartbeats 2000000 in
theorem counts_any (b : Nat) (s : ByteArray) (w : World) (hw : IsWord w b s) (h60 : s.size ≤ 60) :
    Calls Try.prog 48 #[.pointer (some ⟨b, 0, none⟩)] w (CountsPost s w) := by
  have hb := hw.lt
  have htext := hw.text
  have Hbl := Lib.hid (bl_len s)
  go_enter Try.func48, Try.ntmps48
  go_wp2
  go_loopw [4] (fun v wr => ∃ (q : Int) (m : Nat), v = .int .i64 q ∧ q = m - 1 ∧ m ≤ s.size + 1 ∧ Below w.heap.size w wr ∧ (∃ z, Blk wr w.heap.size z 82 ∧ z.size = 61) ∧ ∃ cs, Blk wr (w.heap.size + 1) cs 82 ∧ CB s m cs) (fun v _ => (intOf v + 1).toNat)
  case atStart =>
    exact ⟨_, s.size + 1, rfl, by omega, Nat.le_refl _, below_new2 _ _ _, ⟨_, (Blk.new w _ _).alloc _, rfl⟩, _, Blk.new2 _ _ _ _, rfl, by unfold OneC; simp [Value.oneCell'], fun r h1 h2 => by omega⟩
  case round =>
    obtain ⟨q, m, rfl, hq, hm, hB, ⟨z, hz, hz61⟩, cs, hcs, hrow⟩ := hrel
    cases m with
    | zero =>
      obtain rfl : q = -1 := by omega
      clear hq
      have hsz := Lib.hid hrow.size
      go_wp2_with (first | (refine wpList_load_row rfl 82 (.tmp 3) rfl (w.heap.size + 1) rfl 82 cs (0, 0) _ hcs.out Try.underlying82 rfl (by rw [hsz.out]; kernel_rfl) ?_) | (refine wpList_store_mid rfl 82 (.tmp 2) (.tmp 39) rfl w.heap.size 0 cs rfl rfl (hz.there (by rw [hsz.out]; omega)) (by rw [hsz.out]; kernel_rfl) hrow.one ?_))
      have hb2 := hz.puts cs.toList 0
      rw [put_all _ _ (by rw [hsz.out]; exact hz61)] at hb2
      refine bodyPost_ret (results_cell_row rfl _ _ w.heap.size 82 cs (0, 0) _ rfl hb2.out Try.underlying82 rfl (by rw [hsz.out]; kernel_rfl)) rfl ?_
      exact ⟨below_setCells _ _ (Nat.le_refl _) hB, cs, hrow, rfl⟩
    | succ j =>
      obtain rfl : q = (j : Int) := by omega
      clear hq
      have hsz := hrow.size
      obtain ⟨x, hx⟩ : ∃ x, wr.cell? ⟨w.heap.size + 1, j, none⟩ = some x := by
        rw [hcs.cell]
        exact ⟨_, Array.getElem?_eq_getElem (by omega)⟩
      have hf : wr.frozen? ⟨w.heap.size + 1, j, none⟩ = false := hcs.frozen _
      have j3 : (j : Int) < 61 := by omega
      have Hsz := Lib.hid hsz
      have Hz61 := Lib.hid hz61
      clear hz61 hsz
      go_wp2
      go_loopw [19] (fun v wr => ∃ k : Nat, v = .int .i64 k ∧ k ≤ 4 ∧ Below w.heap.size w wr ∧ (∃ z, Blk wr w.heap.size z 82 ∧ z.size = 61) ∧ ∃ cs, Blk wr (w.heap.size + 1) cs 82 ∧ CB s (j + 1) cs ∧ cs[j]? = some (.int .i64 (pc ((bl s).drop j) k))) (fun v _ => 4 - (intOf v).toNat)
      case atStart =>
        refine ⟨0, rfl, by omega, hB.setCell (p := ⟨w.heap.size + 1, _, none⟩) (by simp) _, ⟨z, hz.other _ (by simp) _, Hz61.out⟩, _, hcs.set _ _, ⟨by rw [Array.size_setIfInBounds]; exact Hsz.out, hrow.one.set _ rfl, fun r h1 h2 => ?_⟩, ?_⟩
        · rw [Array.getElem?_setIfInBounds_ne (by omega)]; exact hrow.row r h1 h2
        · rw [Array.getElem?_setIfInBounds_self, if_pos (by rw [Hsz.out]; omega)]; rfl
      case round =>
        clear hx hf hB hrow hcs hz Hsz Hz61
        obtain ⟨k, rfl, hk, hB, hz, cs, hcs, hrow, hj⟩ := hrel
        by_cases hlt : k < 4
        · have hb2 := hw.below hB
          have hdl : ((bl s).drop j).length = s.size - j := by rw [List.length_drop, Hbl.out]
          have hnx := nx_drop (bl s) k j
          have Hdl := Lib.hid hdl
          have Hnx := Lib.hid hnx
          clear hdl hnx
          by_cases hn : nx (bl s) k j < s.size
          · go_wp2_with (go_at_call 47; refine (after_any b s _ _ j k true _ hb2 h60 rfl rfl (by omega) hlt (by simpa using hn)).mono ?_; rintro e w' ⟨rfl, nq, rfl⟩)
            have hB2 := below_drewN hB nq
            have hcs2 := hcs.drewN nq
            have hz2 : ∃ z, Blk (wr.drewN nq) w.heap.size z 82 ∧ z.size = 61 := by obtain ⟨z, h1, h2⟩ := hz; exact ⟨z, h1.drewN nq, h2⟩
            generalize wr.drewN nq = w2 at hB2 hcs2 hz2 ⊢
            have hge := nx_ge (bl s) k j
            have htm : tm ((bl s).drop j) k = cn ((bl s).drop (nx (bl s) k j + 1)) := by
              unfold tm
              rw [Hdl.out, if_pos (by have := Hnx.out; omega), List.drop_drop, Hnx.out]; congr 2
            have hpc : pc ((bl s).drop j) (k + 1) = pc ((bl s).drop j) k + cn ((bl s).drop (nx (bl s) k j + 1)) := by rw [pc, htm]
            have hle : pc ((bl s).drop j) k + cn ((bl s).drop (nx (bl s) k j + 1)) ≤ 1152921504606846976 := by
              rw [← hpc]; exact Nat.le_trans (pc_le _ _ (by omega)) (cn_60 _ (by rw [Hdl.out]; omega))
            have Hpc := Lib.hid hpc
            clear hpc htm
            have c1 : w2.cell? ⟨w.heap.size + 1, j, none⟩ = some (.int .i64 (pc ((bl s).drop j) k)) := by rw [hcs2.cell]; exact hj
            have c2 : w2.cell? ⟨w.heap.size + 1, nx (bl s) k j + 1, none⟩ = some (.int .i64 (cn ((bl s).drop (nx (bl s) k j + 1)))) := by
              rw [hcs2.cell]; exact hrow.row _ (by omega) (by omega)
            have hf : w2.frozen? ⟨w.heap.size + 1, j, none⟩ = false := hcs2.frozen _
            generalize nx (bl s) k j = p at *
            generalize cn ((bl s).drop (p + 1)) = q at *
            have Hj := Lib.hid hj
            clear hj
            generalize pc ((bl s).drop j) k = r at *
            have e1 : IntKind.i64.wrap ((r : Int) + (q : Int)) = (r : Int) + (q : Int) := IntWalk.i64_in _ (by omega)
            have e2 : ((p : Int) + 1).toNat = p + 1 := by omega
            have j1 : (0 : Int) ≤ (p : Int) + 1 := by omega
            have j2 : (p : Int) + 1 < 61 := by omega
            go_still_tail 8, (by kernel_rfl)
            change wpList _ _ _ _ _ w2.drew
            go_wp2
            go_roundw
            case rel =>
              refine ⟨k + 1, by go_num, by omega, (hB2.drew).setCell (p := ⟨w.heap.size + 1, _, none⟩) (by simp) _, ?_, _, hcs2.drew.set _ _, ⟨by rw [Array.size_setIfInBounds]; exact hrow.size, hrow.one.set _ rfl, fun r h1 h2 => ?_⟩, ?_⟩
              · obtain ⟨z, h1, h2⟩ := hz2; exact ⟨z, h1.drew.other _ (by simp) _, h2⟩
              · rw [Array.getElem?_setIfInBounds_ne (by omega)]; exact hrow.row r h1 h2
              · rw [Array.getElem?_setIfInBounds_self, if_pos (by rw [hrow.size]; omega), Hpc.out]; rfl
            case measure => simp [intOf]; omega
          · go_wp2_with (go_at_call 47; refine (after_any b s _ _ j k false _ hb2 h60 rfl rfl (by omega) hlt (by simpa using hn)).mono ?_; rintro e w' ⟨rfl, nq, rfl⟩)
            go_roundw
            case rel =>
              refine ⟨k + 1, by go_num, by omega, below_drewN hB nq, ?_, _, hcs.drewN nq, hrow, ?_⟩
              · obtain ⟨z, h1, h2⟩ := hz; exact ⟨z, h1.drewN nq, h2⟩
              · rw [pc, tm, if_neg (by have := Hdl.out; have := Hnx.out; omega)]; exact hj
            case measure => simp [intOf]; omega
        · obtain rfl : k = 4 := by omega
          rw [show ((4 : Nat) : Int) = 4 from rfl]
          have Hj := Lib.hid hj
          clear hj
          go_wp2
          go_roundw
          case rel =>
            refine ⟨_, j, rfl, rfl, by omega, hB, hz, cs, hcs, hrow.size, hrow.one, fun r h1 h2 => ?_⟩
            by_cases hr : r = j
            · subst hr; rw [Hj.out, cn_eq]
            · exact hrow.row r (by omega) h2
          case measure => simp [intOf]
end Go.Proofs.Ytfjbodaakmapdaa
