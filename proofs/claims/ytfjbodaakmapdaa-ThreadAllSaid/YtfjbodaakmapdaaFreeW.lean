/-
  The walk of thread.Free.
-/
import Derived.Test.YtfjbodaakmapdaaFreeP
namespace Go.Proofs.Ytfjbodaakmapdaa
open Go.RowKit Go.Shelf Th Kit Go.Proofs.YtfjbodaakmapdaaW.PrintWords
open Go.ChangeMaps (setBlock)

/-! ### Operations on maps, for the walk -/
section
variable {κ ν : Type} [DecidableEq κ] {P : Program} {w : World} {ops : Array Oper} {rest : List Oper} {o : Oper} {a : Act} {Q : Exit → Act → World → Prop} {K E : TypeId} {kf : κ → Value} {vf : ν → Value} {ok : κ → Prop} {b r : Nat} {l left : List (κ × ν)}
theorem wpList_mapset (hg : o.guard = none) (m x v : Operand) (t : TypeId) (hop : o.op = Op.mapUpdate t m x v) (H : KF P K kf ok) (h : MB w b kf vf ok l) (ht : P.underlying t = some (.map K E))
    (k : κ) (hk : ok k) (u : ν) (hm : a.eval m = .map (some b)) (hx : a.eval x = kf k) (hv : a.eval v = vf u)
    (hK : ∀ es clock, MB (setBlock w b (.map es clock)) b kf vf ok (putL l k u) → wpList P ops Q rest (a.put o.dst undef) (setBlock w b (.map es clock))) : wpList P ops Q (o :: rest) a w := by
  refine wpList_plain hg fun K' hK' => ?_
  obtain ⟨es, clock, hrun, hm2⟩ := h.store H ht k hk u
  unfold Oper.wp
  simp only [execOp, hop, hm, hx, hv, Sem.run_bind, Sem.run_pure, hrun, Result.andThen_ok]
  exact hK' _ _ (hK es clock hm2)
omit [DecidableEq κ] in
theorem wpList_range_mb (hg : o.guard = none) (m : Operand) (t : TypeId) (hop : o.op = Op.range t m) (h : MB w b kf vf ok l) (ht : P.underlying t = some (.map K E)) (hm : a.eval m = .map (some b))
    (hK : ∀ w', MR w' b w.heap.size kf vf ok l l → Below w.heap.size w w' → w'.heap.size = w.heap.size + 1 → wpList P ops Q rest (a.put o.dst (.pointer (some ⟨w.heap.size, 0, none⟩))) w') : wpList P ops Q (o :: rest) a w := by
  refine wpList_plain hg fun K' hK' => ?_
  obtain ⟨w', hrun, h1, h2, h3⟩ := h.range ht
  unfold Oper.wp
  simp only [execOp, hop, hm, Sem.run_bind, Sem.run_pure, hrun, Result.andThen_ok]
  exact hK' _ _ (hK w' h1 h2 h3)
omit [DecidableEq κ] in
theorem wpList_next_mr (hg : o.guard = none) (it : Operand) (hop : o.op = Op.next it false) (hit : a.eval it = .pointer (some ⟨r, 0, none⟩)) (h : MR w b r kf vf ok l left)
    (hDone : left = [] → wpList P ops Q rest (a.put o.dst (.tuple #[.bool false])) w)
    (hMore : ∀ (p : List (κ × ν)) (x : κ × ν) (c : List (κ × ν)) (w' : World), left = p ++ x :: c → MR w' b r kf vf ok l (p ++ c) → w.grownBy w' (some r) → w'.heap.size = w.heap.size →
      (Instr.entry (.pointer (some ⟨r, 0, none⟩))).run P w' = .ok (.tuple #[kf x.1, vf x.2]) w' → wpList P ops Q rest (a.put o.dst (.tuple #[.bool true, kf x.1, vf x.2])) w') : wpList P ops Q (o :: rest) a w := by
  refine wpList_plain hg fun K' hK' => ?_
  unfold Oper.wp
  rcases h.next (P := P) o.type with ⟨h0, hrun⟩ | ⟨p, x, c, w', e, hrun, h1, h2, h3, _, h5⟩
  · simp only [execOp, hop, hit, Sem.run_bind, Sem.run_pure, hrun, Result.andThen_ok]
    exact hK' _ _ (hDone h0)
  · simp only [execOp, hop, hit, Sem.run_bind, Sem.run_pure, hrun, Result.andThen_ok]
    exact hK' _ _ (hMore p x c w' e h1 h2 h3 h5)
omit [DecidableEq κ] in
theorem Kit.MR.left_eq (h : MR w b r kf vf ok l left) : w.rangeLeft b r = left.length := by
  obtain ⟨es, clock, seen, hb, _, hr, hl⟩ := h.out
  unfold World.rangeLeft
  rw [hb, hr]
  have := congrArg List.length hl
  simpa using this
end

def vN (n : Nat) : Value := .int .i64 n
theorem kfq (l : List ByteArray) : KF Try.prog 92 mksV (okq l) where
  law := keyed92
  key m h := kfMks.key m h.1
  inj := kfMks.inj

/-- The number of words of length j, of the first k letters, without a word of the family. -/
def fbase (l : List ByteArray) (k j : Nat) : Nat := if hasEmpty l = true then 0 else wcount (l.map bl) k j [0, 0, 0, 0]
def freeOut (l : List ByteArray) (k n : Nat) : List Nat := (List.range (n + 1)).map (fbase l k)

theorem own_ne_obj {W : World} {B e b : Nat} {v : Value} {ok : Nat → Prop} {xs : List Int} {o : Obj} (h : Kd.R (Kd.int .i64) e W B ok v xs) (hb : W.heap[b]? = some o) (hc : o.isCells = false) : some b ≠ v.ownBlock := by
  intro e1
  obtain ⟨inner, ho⟩ := Kd.R_own h
  obtain ⟨c, fz, h1⟩ := own_kind ho b e1.symm
  rw [hb] at h1
  cases h1
  cases hc
theorem Kit.MB.obj {κ ν : Type} {w : World} {b : Nat} {kf : κ → Value} {vf : ν → Value} {ok : κ → Prop} {l : List (κ × ν)} (h : MB w b kf vf ok l) : ∃ o : Obj, w.heap[b]? = some o ∧ o.isCells = false := by
  obtain ⟨es, clock, hb, _⟩ := h.out
  exact ⟨_, hb, rfl⟩

theorem fbase_le (l : List ByteArray) (k j : Nat) (hk : k ≤ 4) (hj : j ≤ 31) : fbase l k j ≤ 4611686018427387904 := by
  unfold fbase
  split
  · omega
  · refine Nat.le_trans (wcount_le _ k j _) (Nat.le_trans (Nat.pow_le_pow_left hk j) (Nat.le_trans (Nat.pow_le_pow_right (by omega) hj) (by decide)))

theorem Kit.MR.okL {κ ν : Type} {P : Program} {K : TypeId} {w : World} {b r : Nat} {kf : κ → Value} {vf : ν → Value} {ok : κ → Prop} {l left : List (κ × ν)} (H : KF P K kf ok) (h : MR w b r kf vf ok l left) : ∀ x ∈ left, ok x.1 := by
  intro x hx
  obtain ⟨es, clock, seen, _, m, _, hl⟩ := h.out
  have h1 : (kf x.1, vf x.2) ∈ (leftOf es seen).toList.map (fun e => (e.key, e.val)) := by
    rw [hl]; exact List.mem_map.2 ⟨x, hx, rfl⟩
  obtain ⟨e, he, h2⟩ := List.mem_map.1 h1
  have hem : e ∈ es.toList := by
    unfold leftOf at he; simp at he ⊢; exact he.1
  have h3 : (e.key, e.val) ∈ l.map (fun p => (kf p.1, vf p.2)) := by
    rw [← m.is]; exact List.mem_map.2 ⟨e, hem, rfl⟩
  obtain ⟨p, hp, h4⟩ := List.mem_map.1 h3
  rw [h2] at h4
  rw [← H.inj _ _ (Prod.mk.inj h4).1]
  exact m.ok p hp
theorem wpart_mono (ws : List (List Nat)) (f : List Nat → Nat) (m : List Nat) (c : Nat) : ∀ d, wpart ws f m c ≤ wpart ws f m (c + d)
  | 0 => Nat.le_refl _
  | d + 1 => by
    have := wpart_mono ws f m c d
    rw [← Nat.add_assoc, wpart]; omega

theorem getL_putL (l : MM) (t : List Nat) (v : Nat) : getL (putL l t v) t = some v := by
  unfold putL
  cases h : getL l t with
  | none =>
    have h1 := getL_none.1 h
    simp only [Option.isSome_none, Bool.false_eq_true, if_false]
    unfold getL
    rw [List.find?_append, List.find?_eq_none.2 (by simpa using h1)]
    simp
  | some u =>
    simp only [Option.isSome_some, if_true]
    unfold getL at h ⊢
    rw [List.find?_map]
    obtain ⟨p, hp, _⟩ := Option.map_eq_some_iff.1 h
    have hpk := List.find?_some hp
    have e : ((fun p : List Nat × Nat => decide (p.1 = t)) ∘ fun p => if p.1 = t then (t, v) else p) = fun p => decide (p.1 = t) := by
      funext p
      simp only [Function.comp]
      by_cases hq : p.1 = t
      · simp [hq]
      · simp [hq]
    rw [e, hp]
    simp only [decide_eq_true_eq] at hpk
    simp [hpk]

set_option maxRecDepth 100000 in
set_option maxHeartbeats 2000000 in
theorem free_walk (A : Option Addr) (cp : Nat) (l : List ByteArray) (k n : Nat) (w : World) (hr : SR w A l) (hf : isFam l = true) (hk : 1 ≤ k ∧ k ≤ 4) (hn : n ≤ 30) :
    Calls Try.prog 36 #[.slice A l.length cp, .int .i64 k, .int .i64 n] w (WithinPost (zs (freeOut l k n)) 0 w) := by
  obtain ⟨hk1, hk2⟩ := hk
  have Hf := Lib.hid hf
  have hl4 : l.length ≤ 4 := by
    have := Hf.out
    unfold isFam at this
    simp only [Bool.and_eq_true, decide_eq_true_eq] at this
    exact this.1
  have hl8 : ∀ s ∈ l, s.size ≤ 8 := fun s hs => by
    have := Hf.out
    unfold isFam at this
    simp only [Bool.and_eq_true, decide_eq_true_eq, Bool.not_eq_true', List.any_eq_false] at this
    have h2 := this.2 s hs
    unfold badW at h2
    simp only [Bool.or_eq_true, Bool.not_eq_true', decide_eq_true_eq, not_or] at h2
    omega
  have Hl8 := Lib.hid hl8
  have hkr : (decide ((1 : Int) ≤ (k : Int)) && decide ((k : Int) ≤ 4)) = true := by simp; omega
  have hnr : (decide ((0 : Int) ≤ (n : Int)) && decide ((n : Int) ≤ 30)) = true := by simp; omega
  have Hkr := Lib.hid hkr
  have Hnr := Lib.hid hnr
  clear hf hl8 hkr hnr
  have hmm := @run_makeMap Try.prog
  go_enter Try.func36, Try.ntmps36
  go_wp2_with fail
  refine (isFamily_any A cp l _ hr).mono ?_
  rw [Hf.out]
  rintro e w1 ⟨rfl, hB1⟩
  go_wp2_with fail
  refine (within_any _ _ _ true _ Hkr.out).mono ?_
  rintro e w1' ⟨rfl, rfl⟩
  go_wp2_with fail
  refine (within_any _ _ _ true _ Hnr.out).mono ?_
  rintro e w1' ⟨rfl, rfl⟩
  go_wp2_with fail
  have hr1 := (hr.below hB1).below ((Below.refl _ w1).alloc (Nat.le_refl _) (.map #[] 0))
  refine (contains_any A cp l _ hr1).mono ?_
  rintro e w2 ⟨rfl, rfl⟩
  have hm0 := MB.new w1 mksV vN (okq l)
  have hB2 := hB1.alloc hB1.size (.map #[] 0)
  have Hhr := Lib.hid hr
  have hs1 := hB1.size
  have hsm : (w1.alloc (.map #[] 0)).heap.size = w1.heap.size + 1 := by simp
  clear hr1 hmm
  cases hE : hasEmpty l
  · have HE := Lib.hid hE
    clear hE
    have hok : okq l [0, 0, 0, 0] := ⟨⟨rfl, by simp⟩, rfl, fun i s hi => by
      have h1 := HE.out
      unfold hasEmpty at h1
      rw [List.any_eq_false] at h1
      have h2 := h1 s (List.mem_of_getElem? hi)
      have h3 : ([0, 0, 0, 0] : List Nat).getD i 0 = 0 := by
        match i with
        | 0 => rfl
        | 1 => rfl
        | 2 => rfl
        | 3 => rfl
        | i + 4 => rfl
      rw [h3]
      simp only [decide_eq_true_eq] at h2
      omega⟩
    go_wp2_with (at_mapUpdate
                 refine wpList_mapset rfl (.tmp 34) (.tmp 35) (.const (.int .i64 1)) 90 rfl (kfq l) hm0 Try.underlying90 [0, 0, 0, 0] hok 1 rfl rfl rfl ?_
                 intro es clock hm1)
    have hB0 := hB2.grown (grown_setBlock (w1.alloc (.map #[] 0)) w1.heap.size (.map es clock)) (by omega) (fun j e => by cases e; exact hs1)
    have hs0 : (setBlock (w1.alloc (.map #[] 0)) w1.heap.size (.map es clock)).heap.size = w1.heap.size + 1 := by simp [setBlock]
    have hM0 : ∀ j, tot (l.map bl) k j (putL [] [0, 0, 0, 0] 1) = fbase l k j := fun j => by
      unfold fbase
      rw [HE.out]
      simp [putL, getL, tot]
    generalize setBlock (w1.alloc (.map #[] 0)) w1.heap.size (.map es clock) = W0 at hm1 hB0 hs0 ⊢
    generalize (putL [] [0, 0, 0, 0] 1 : MM) = M0 at hm1 hM0
    have HM0 := Aside0.mk hM0
    clear hm0 hB2 hsm hM0 hok
    obtain ⟨bz, hbz⟩ : ∃ bz, bz = w1.heap.size := ⟨_, rfl⟩
    rw [← hbz] at hm1 hs0 hs1 ⊢
    have Hbz := Lib.hid hbz
    clear hbz
    go_loopw [8, 9, 38] (fun vm vo vi wr => ∃ (i bM : Nat) (M : MM), vm = .map (some bM) ∧ vi = .int .i64 i ∧ i ≤ n + 1 ∧ MB wr bM mksV vN (okq l) M ∧ bz ≤ bM ∧ Aside0 (∀ j, tot (l.map bl) k j M = fbase l k (i + j)) ∧
      Aside0 (Kd.R (Kd.int .i64) 3 wr w.heap.size (fun _ => True) vo (zs ((List.range i).map (fbase l k)))) ∧ Aside0 (Below w.heap.size w wr) ∧ bz < wr.heap.size) (fun _ _ vi _ => n + 1 - (intOf vi).toNat)
    case atStart =>
      exact ⟨0, bz, M0, rfl, rfl, Nat.zero_le _, hm1, Nat.le_refl _, ⟨fun j => by rw [HM0.out, Nat.zero_add]⟩, ⟨Kd.R_nil _ _ _ _ _⟩, ⟨hB0⟩, by omega⟩
    case round =>
      clear hm1 hs0 hB0 HM0
      obtain ⟨i, bM, M, rfl, rfl, hi, hm, hbM, HT, HO, HB, hbs⟩ := hrel
      by_cases hlt : i < n + 1
      · have hmm := @run_makeMap Try.prog
        have hbMl := hm.lt
        go_wp2_with (at_range
                     refine wpList_range_mb rfl (.tmp 41) 90 rfl (hm.alloc (.map #[] 0)) Try.underlying90 rfl ?_
                     intro w3 hr3 hB3 hs3)
        go_frame
        have hBn := hB3.mono (B' := wr.heap.size) (by simp)
        have hN3 := (MB.new wr mksV vN (okq l)).below hB3 (by simp)
        have HO3 := Aside0.mk (Kd.R_below (Kd.R_below HO.out ((Below.refl _ wr).alloc (Nat.le_refl _) (.map #[] 0))) hB3)
        have HB3 := Aside0.mk ((HB.out.alloc HB.out.size (.map #[] 0)).trans (hB3.mono (by have := HB.out.size; simp; omega)))
        have hT0 : tot (l.map bl) k 0 M = fbase l k i := HT.out 0
        have hT1 : tot (l.map bl) k 1 M = fbase l k (i + 1) := HT.out 1
        have hbi := fbase_le l k i hk2 (by omega)
        have hbi1 := fbase_le l k (i + 1) hk2 (by omega)
        rw [← hT0] at hbi
        rw [← hT1] at hbi1
        have HT0 := Aside0.mk hT0
        simp only [World.size_alloc] at hr3 hs3 ⊢
        have hwl := HB.out.size
        obtain ⟨bN, hbN⟩ : ∃ bN, bN = wr.heap.size := ⟨_, rfl⟩
        rw [← hbN] at hr3 hs3 hN3 hbMl hbs hwl ⊢
        have HbN := Lib.hid hbN
        clear hbN hBn hB3 hT0 hT1 hmm hm
        go_loopw [10] (fun vs wr' => ∃ (left N : MM) (sm : Nat), vs = .int .i64 sm ∧ MR wr' bM (bN + 1) mksV vN (okq l) M left ∧ MB wr' bN mksV vN (okq l) N ∧ Aside0 (∀ j, tot (l.map bl) k j N + tot (l.map bl) k (j + 1) left = tot (l.map bl) k (j + 1) M) ∧
          Aside0 (sm + tot (l.map bl) k 0 left = tot (l.map bl) k 0 M) ∧ Aside0 (Kd.R (Kd.int .i64) 3 wr' w.heap.size (fun _ => True) u9 (zs ((List.range i).map (fbase l k)))) ∧ Aside0 (Below w.heap.size w wr') ∧ bN + 2 ≤ wr'.heap.size) (fun _ wr' => wr'.rangeLeft bM (bN + 1))
        case atStart => exact ⟨M, [], 0, rfl, hr3, hN3, ⟨fun j => by simp [tot]⟩, ⟨by simp⟩, HO3, HB3, by omega⟩
        case round =>
          clear hr3 hN3 HO3 HB3 hs3
          obtain ⟨left, N, sm, rfl, hr4, hN4, HS, HU, HO4, HB4, hz4⟩ := hrel
          have hsm := HU.out
          go_wp2_with (first
            | (at_next
               refine wpList_next_mr rfl (.tmp 42) rfl rfl hr4 (fun hl => ?_) (fun p x q w5 hl hr5 hg5 hsz5 hen => ?_)
               rotate_left
               have hsz6 := Nat.le_of_eq hsz5.symm
               clear hsz5
               obtain ⟨m, cnt⟩ := x
               simp only [mksV, vN] at hen ⊢
               have hOK : okq l m := hr4.okL (kfq l) (m, cnt) (by rw [hl]; simp)
               have hm4 : m.length = 4 := by
                 obtain ⟨⟨h1, _⟩, _⟩ := hOK
                 exact h1
               have hA4 : (mksA m).size = 4 := by rw [mksA_size, hm4]
               have HA4 := Lib.hid hA4
               have HOK := Aside0.mk hOK
               clear hA4 hOK
               subst hl
               rw [tot_out] at hsm
               simp only [wcount, Nat.mul_one] at hsm)
            | (refine wpList_store_new rfl 92 (.tmp 12) (.tmp 46) rfl w5 _ 92 (mksA m) rfl rfl rfl (by rw [HA4.out]; rfl) (by rw [HA4.out]; kernel_rfl) (mksA_one m) ?_
               intro w6 hB6 hlt6 hblk)
            | ((with_reducible refine gate_builtin (b := .append) (xs := #[.tmp 73, .tmp 75]) rfl ?_); at_builtin; refine Kd.R_append (Kd.int .i64) (w0 := w) w.heap.size rfl (.tmp 73) (.tmp 75) 24 3 (.int .i64 0) 8 rfl Try.underlying24 info3 rfl (by decide) (by omega) u9 (zs ((List.range i).map (fbase l k))) sm [.int .i64 sm] (fun _ => True) (fun _ => False) rfl rfl rfl (fun _ hk => hk.elim) (fun _ _ => trivial) HO4.out HB4.out HB4.out.size (by rw [zs_len]; simp; omega) ?_; intro v7 w7 ho7 hb7 hg7 hat7))
          · have hbM4 := hr4.lt
            have hOut : some bN ≠ u9.ownBlock := by
              obtain ⟨o, ho, hc⟩ := hN4.obj
              exact own_ne_obj HO4.out ho hc
            have hB5 := HB4.out.grown hg5 (by omega) (fun j e => by cases e; omega)
            have hr6 : MR w6 bM (bN + 1) mksV vN (okq l) M (p ++ q) := hr5.same (hB6.block _ (by omega)) (hB6.block _ (by omega))
            have hN6 := (hN4.grown hg5 (by simp)).below hB6 (by omega)
            have hO5 := Kd.R_grown2 HO4.out rfl hg5 (fun j e => by
              cases e
              obtain ⟨es2, clock2, seen2, _, _, hrr, _⟩ := hr4.out
              exact own_ne_obj HO4.out hrr rfl)
            have HO6 := Aside0.mk (Kd.R_below hO5 hB6)
            have HB6 := Aside0.mk (hB5.trans (hB6.mono (by omega)))
            have hz6 : bN + 2 ≤ w6.heap.size := by omega
            have hwt : ∀ j, tot (l.map bl) k j N + tot (l.map bl) k (j + 1) (p ++ q) + cnt * wcount (l.map bl) k (j + 1) m = tot (l.map bl) k (j + 1) M := fun j => by
              have := HS.out j
              rw [tot_out] at this
              simp only at this
              omega
            have HW := Aside0.mk hwt
            have hrl : w6.rangeLeft bM (bN + 1) < wr.rangeLeft bM (bN + 1) := by
              rw [hr6.left_eq, hr4.left_eq]; simp
            have Hrl := Aside0.mk hrl
            have hgt : w5.heap.size < w6.heap.size := hlt6
            clear hr4 hN4 HO4 HB4 hg5 hr5 hen hB6 hO5 hB5 hwt HS hrl hOut hlt6
            obtain ⟨bX, hbX⟩ : ∃ bX, bX = w5.heap.size := ⟨_, rfl⟩
            rw [← hbX] at hblk hgt hsz6 ⊢
            have HbX := Lib.hid hbX
            clear hbX
            go_loopw [52] (fun vc wr' => ∃ (c : Nat) (N' : MM), vc = .int .i64 c ∧ c ≤ k ∧ MR wr' bM (bN + 1) mksV vN (okq l) M (p ++ q) ∧ MB wr' bN mksV vN (okq l) N' ∧ Aside0 (∀ j, tot (l.map bl) k j N' = tot (l.map bl) k j N + cnt * wpart (l.map bl) (wcount (l.map bl) k j) m c) ∧
              Aside0 (Kd.R (Kd.int .i64) 3 wr' w.heap.size (fun _ => True) u9 (zs ((List.range i).map (fbase l k)))) ∧ Aside0 (Below w.heap.size w wr') ∧ bX < wr'.heap.size ∧ Blk wr' bX (mksA m) 92 ∧ Aside0 (wr'.rangeLeft bM (bN + 1) = w6.rangeLeft bM (bN + 1))) (fun vc _ => k - (intOf vc).toNat)
            case atStart => exact ⟨0, N, rfl, Nat.zero_le _, hr6, hN6, ⟨fun j => by simp [wpart]⟩, HO6, HB6, hgt, hblk, ⟨rfl⟩⟩
            case round =>
              clear hr6 hN6 HO6 HB6 hblk hgt hz6
              obtain ⟨c, N', rfl, hc, hr8, hN8, HV, HO8, HB8, hX8, hb8, HL8⟩ := hrel
              by_cases hck : c < k
              · have hsr := hr.below HB8.out
                obtain ⟨t, ht⟩ : ∃ t, t = (mgo (97 + c) (l.map bl) m 0).1 := ⟨_, rfl⟩
                obtain ⟨bo, hbo⟩ : ∃ bo, bo = (mgo (97 + c) (l.map bl) m 0).2 := ⟨_, rfl⟩
                have hcall := mafter_any A cp l m (97 + c) wr hsr hl4 Hl8.out HOK.out.2
                rw [show ((97 + c : Nat) : Int) = 97 + (c : Int) by omega, ← ht, ← hbo] at hcall
                have Hcall := Aside0.mk hcall
                have ht4 : (mksA t).size = 4 := by rw [mksA_size, ht, mgo_length]; exact HOK.out.1.1
                have HT4 := Lib.hid ht4
                have Ht := Lib.hid ht
                have Hbo := Lib.hid hbo
                clear hcall ht4 ht hbo
                cases bo with
                | false =>
                  go_wp2_with (first
                    | (refine wpList_load_row rfl 92 (.tmp 12) rfl bX rfl 92 _ (0, 0) _ hb8.out Try.underlying92 rfl (by rw [HA4.out]; kernel_rfl) ?_)
                    | (go_at_call 60
                       refine Hcall.out.mono ?_
                       rintro e w9 ⟨rfl, hB9⟩
                       simp only [mksV])
                    | (refine wpList_store_new rfl 92 (.tmp 15) (.tmp 62) rfl w9 _ 92 (mksA t) rfl rfl rfl (by rw [HT4.out]; rfl) (by rw [HT4.out]; kernel_rfl) (mksA_one t) ?_
                       intro w10 hB10 hlt10 hblk10))
                  go_roundw
                  case rel =>
                    have hlt9 := hB9.size
                    have hlr := hr8.lt
                    have hB11 : Below wr.heap.size wr w10 := hB9.trans (hB10.mono hlt9)
                    have hr11 := hr8.same (w' := w10) (hB11.block _ (by omega)) (hB11.block _ (by omega))
                    refine ⟨c + 1, N', by go_num, by omega, hr11, hN8.below hB11 (by omega), ⟨fun j => ?_⟩, ⟨Kd.R_below HO8.out hB11⟩, ⟨HB8.out.trans (hB11.mono HB8.out.size)⟩, by omega, hb8.below hB11 (by omega), ⟨?_⟩⟩
                    · rw [HV.out j, wpart, wterm, ← Hbo.out, if_neg (by simp), Nat.add_zero]
                    · rw [hr11.left_eq, ← HL8.out, hr8.left_eq]
                  case measure => simp [intOf]; omega
                | true =>
                  go_wp2_with (first
                    | (refine wpList_load_row rfl 92 (.tmp 12) rfl bX rfl 92 _ (0, 0) _ hb8.out Try.underlying92 rfl (by rw [HA4.out]; kernel_rfl) ?_)
                    | (go_at_call 60
                       refine Hcall.out.mono ?_
                       rintro e w9 ⟨rfl, hB9⟩
                       simp only [mksV])
                    | (refine wpList_store_new rfl 92 (.tmp 15) (.tmp 62) rfl w9 _ 92 (mksA t) rfl rfl rfl (by rw [HT4.out]; rfl) (by rw [HT4.out]; kernel_rfl) (mksA_one t) ?_
                       intro w10 hB10 hlt10 hblk10))
                  have hlt9 := hB9.size
                  have hlr := hr8.lt
                  have hB11 : Below wr.heap.size wr w10 := hB9.trans (hB10.mono hlt9)
                  have hr11 := hr8.same (w' := w10) (hB11.block _ (by omega)) (hB11.block _ (by omega))
                  have hN11 := hN8.below hB11 (by omega)
                  have hOK2 : okq l t := by
                    rw [Ht.out]; exact okq_go HOK.out hl4 Hl8.out _ Hbo.out.symm
                  have hz3 : ∀ u : World, (zeroValue 3).run Try.prog u = .ok (vN 0) u := run_zero (by kernel_rfl)
                  have hlook := hN11.drew.look (kfq l) Try.underlying90 (hz3 _) t hOK2 false
                  obtain ⟨es1, clock1, st, hent, hN12, hst⟩ := hN11.drew.entry (kfq l) Try.underlying90 hz3 t hOK2
                  obtain ⟨es2, clock2, hsto, hN13⟩ := hst (setBlock w10.drew bN (.map es1 clock1)) ((getL N' t).getD 0 + cnt) (heap_block hN11.drew.lt _)
                  have hlook2 := hN12.look (kfq l) Try.underlying90 (hz3 _) t hOK2 false
                  obtain ⟨v, hv⟩ : ∃ v, v = (getL N' t).getD 0 := ⟨_, rfl⟩
                  have e1 : ((getL N' t).map vN).getD (vN 0) = vN v := by rw [hv]; cases getL N' t <;> rfl
                  have e2 : ((getL (putL N' t ((getL N' t).getD 0)) t).map vN).getD (vN 0) = vN v := by rw [hv, getL_putL]; rfl
                  rw [if_neg (by simp), e1] at hlook
                  rw [if_neg (by simp), e2] at hlook2
                  rw [← hv] at hent hsto hN12 hN13
                  have e3 : vN (v + cnt) = .int .i64 ((v : Int) + cnt) := by show Value.int .i64 ((v + cnt : Nat) : Int) = _; simp
                  rw [e3] at hsto
                  have hN13' := Aside0.mk hN13
                  have Hv := Lib.hid hv
                  have hkeys : (N'.map (·.1)).Nodup := by
                    obtain ⟨_, _, _, hme⟩ := hN8.out
                    exact hme.keys
                  have hterm : ∀ j, wterm (l.map bl) (wcount (l.map bl) k j) m c = wcount (l.map bl) k j t := fun j => by
                    unfold wterm
                    rw [← Hbo.out, if_pos rfl, ← Ht.out]
                  have hbv : (v : Int) + cnt ≤ 4611686018427387904 := by
                    have h1 := get_le (l.map bl) k N' t hkeys
                    have h2 := HV.out 0
                    have h3 := HW.out 0
                    have h4 : wpart (l.map bl) (wcount (l.map bl) k 0) m (c + 1) ≤ wpart (l.map bl) (wcount (l.map bl) k 0) m k := by
                      have := wpart_mono (l.map bl) (wcount (l.map bl) k 0) m (c + 1) (k - (c + 1))
                      rwa [show c + 1 + (k - (c + 1)) = k by omega] at this
                    rw [wpart, hterm] at h4
                    simp only [wcount] at h3 h4
                    have h5 := Nat.mul_le_mul_left cnt h4
                    rw [Nat.mul_add, Nat.mul_one] at h5
                    simp only [Nat.zero_add] at h3
                    rw [← hv] at h1
                    simp only [wcount] at h2
                    omega
                  have Hterm := Aside0.mk hterm
                  have Hkeys := Aside0.mk hkeys
                  clear hterm hkeys
                  simp only [vN, mksV] at hlook hlook2 hent hsto
                  obtain ⟨t0, t1, t2, t3, htt⟩ : ∃ t0 t1 t2 t3, t = [t0, t1, t2, t3] := by
                    have := hOK2.1.1
                    match t, this with
                    | [a, b, c, d], _ => exact ⟨a, b, c, d, rfl⟩
                  have hmk : mksA t = #[.int .i64 t0, .int .i64 t1, .int .i64 t2, .int .i64 t3] := by rw [htt]; rfl
                  rw [hmk] at hlook hlook2 hent
                  have k0 := (hblk10.as hmk).cell 0
                  have k1 := (hblk10.as hmk).cell 1
                  have k2 := (hblk10.as hmk).cell 2
                  have k3 := (hblk10.as hmk).cell 3
                  simp only [List.getElem?_toArray, List.getElem?_cons_zero, List.getElem?_cons_succ] at k0 k1 k2 k3
                  have HOK2 := Aside0.mk hOK2
                  have hwr : IntKind.i64.wrap ((v : Int) + cnt) = (v : Int) + cnt := IntWalk.i64_in _ (by omega)
                  rw [← hwr] at hsto
                  simp only [goInt] at hsto hent
                  clear htt hmk hOK2 hwr
                  have hmix : Try.prog.follows .mixedOrders = true := by kernel_rfl
                  clear e1 e2 e3 hN12 hN13 hz3 hst hv
                  have hOb : some bN ≠ u9.ownBlock := by
                    obtain ⟨o, ho, hc⟩ := hN11.obj
                    exact own_ne_obj (Kd.R_below HO8.out hB11) ho hc
                  have hg13 : w10.grownBy (setBlock (setBlock w10.drew bN (.map es1 clock1)) bN (.map es2 clock2)) (some bN) :=
                    ⟨rfl, rfl, rfl, by simp [setBlock], fun i _ hi => by rw [heap_block_ne (fun e => hi (by rw [e])), heap_block_ne (fun e => hi (by rw [e]))]; rfl⟩
                  have Hg13 := Aside0.mk hg13
                  clear hg13
                  go_region
                  all_goals
                    go_wp2
                    go_roundw
                    case rel =>
                      have hg13 := Hg13.out
                      have hbXN : bN + 2 ≤ bX := by omega
                      have hr13 := hr11.same (hg13.block bM hr11.lt.1 (fun e => by cases e; omega)) (hg13.block (bN + 1) hr11.lt.2 (fun e => by simp at e))
                      refine ⟨c + 1, _, by go_num, by omega, hr13, hN13'.out, ⟨fun j => ?_⟩, ⟨Kd.R_grown2 (Kd.R_below HO8.out hB11) rfl hg13 (fun j e => by cases e; exact hOb)⟩, ⟨(HB8.out.trans (hB11.mono HB8.out.size)).grown hg13 (by have := HB8.out.size; omega) (fun j e => by cases e; omega)⟩, by have := hg13.size; omega, (hb8.below hB11 (by omega)).grown hg13 (by simp; omega), ⟨?_⟩⟩
                      · rw [Hv.out, tot_put _ _ _ _ _ _ Hkeys.out, HV.out j, wpart, Hterm.out, Nat.mul_add]; omega
                      · rw [hr13.left_eq, ← HL8.out, hr8.left_eq]
                    case measure => simp [intOf]; omega
              · obtain rfl : c = k := by omega
                go_wp2
                have hfin : ∀ j, tot (l.map bl) c j N' + tot (l.map bl) c (j + 1) (p ++ q) = tot (l.map bl) c (j + 1) M := fun j => by
                  have h1 := HV.out j
                  have h2 := HW.out j
                  rw [h1]
                  simp only [wcount] at h2 ⊢
                  omega
                have hd : decide ((i : Int) < (n : Int) + 1) = true := decide_eq_true (by omega)
                simp only [hd]
                refine ⟨?rel0, ?measure0⟩
                case rel0 =>
                  repeat apply Exists.intro
                  refine ⟨⟨p ++ q, N', sm + cnt, ?_, hr8, hN8, ⟨hfin⟩, ⟨by omega⟩, HO8, HB8, by omega⟩, rfl⟩
                  exact int_eq (by omega)
                case measure0 =>
                  have h1 := HL8.out
                  have h2 := Hrl.out
                  omega
          · have hlf : left = [] := hl
            subst hlf
            have hOut : some bN ≠ u9.ownBlock := by
              obtain ⟨o, ho, hc⟩ := hN4.obj
              exact own_ne_obj HO4.out ho hc
            have hsm2 : sm = fbase l k i := by
              have := HU.out
              have h2 := HT0.out
              simp only [tot] at this
              omega
            go_roundw
            case rel =>
              refine ⟨i + 1, bN, N, rfl, by go_num, by omega, hN4.grown hg7 hOut, by omega, ⟨fun j => ?_⟩, ⟨?_⟩, ⟨hb7⟩, by have := hg7.size; omega⟩
              · have h1 := HS.out j
                have h2 := HT.out (j + 1)
                simp only [tot, Nat.add_zero] at h1
                rw [h1, h2, show i + (j + 1) = i + 1 + j by omega]
              · rw [List.range_succ, List.map_append, List.map_cons, List.map_nil, zs_snoc, ← hsm2]
                exact ho7
            case measure => simp [intOf]; omega
      · obtain rfl : i = n + 1 := by omega
        go_wp2
        go_ret2
        exact ⟨_, rfl, HO.out, HB.out⟩
  · have HE := Lib.hid hE
    clear hE
    go_wp2
    have hM0 : ∀ j, tot (l.map bl) k j [] = fbase l k j := fun j => by
      unfold fbase
      rw [HE.out]; rfl
    have hm1 := hm0
    have hB0 := hB2
    have hs0 := hsm
    generalize w1.alloc (.map #[] 0) = W0 at hm1 hB0 hs0 ⊢
    generalize ([] : MM) = M0 at hm1 hM0
    have HM0 := Aside0.mk hM0
    clear hm0 hB2 hsm hM0
    obtain ⟨bz, hbz⟩ : ∃ bz, bz = w1.heap.size := ⟨_, rfl⟩
    rw [← hbz] at hm1 hs0 hs1 ⊢
    have Hbz := Lib.hid hbz
    clear hbz
    go_loopw [8, 9, 38] (fun vm vo vi wr => ∃ (i bM : Nat) (M : MM), vm = .map (some bM) ∧ vi = .int .i64 i ∧ i ≤ n + 1 ∧ MB wr bM mksV vN (okq l) M ∧ bz ≤ bM ∧ Aside0 (∀ j, tot (l.map bl) k j M = fbase l k (i + j)) ∧
      Aside0 (Kd.R (Kd.int .i64) 3 wr w.heap.size (fun _ => True) vo (zs ((List.range i).map (fbase l k)))) ∧ Aside0 (Below w.heap.size w wr) ∧ bz < wr.heap.size) (fun _ _ vi _ => n + 1 - (intOf vi).toNat)
    case atStart =>
      exact ⟨0, bz, M0, rfl, rfl, Nat.zero_le _, hm1, Nat.le_refl _, ⟨fun j => by rw [HM0.out, Nat.zero_add]⟩, ⟨Kd.R_nil _ _ _ _ _⟩, ⟨hB0⟩, by omega⟩
    case round =>
      clear hm1 hs0 hB0 HM0
      obtain ⟨i, bM, M, rfl, rfl, hi, hm, hbM, HT, HO, HB, hbs⟩ := hrel
      by_cases hlt : i < n + 1
      · have hmm := @run_makeMap Try.prog
        have hbMl := hm.lt
        go_wp2_with (at_range
                     refine wpList_range_mb rfl (.tmp 41) 90 rfl (hm.alloc (.map #[] 0)) Try.underlying90 rfl ?_
                     intro w3 hr3 hB3 hs3)
        go_frame
        have hBn := hB3.mono (B' := wr.heap.size) (by simp)
        have hN3 := (MB.new wr mksV vN (okq l)).below hB3 (by simp)
        have HO3 := Aside0.mk (Kd.R_below (Kd.R_below HO.out ((Below.refl _ wr).alloc (Nat.le_refl _) (.map #[] 0))) hB3)
        have HB3 := Aside0.mk ((HB.out.alloc HB.out.size (.map #[] 0)).trans (hB3.mono (by have := HB.out.size; simp; omega)))
        have hT0 : tot (l.map bl) k 0 M = fbase l k i := HT.out 0
        have hT1 : tot (l.map bl) k 1 M = fbase l k (i + 1) := HT.out 1
        have hbi := fbase_le l k i hk2 (by omega)
        have hbi1 := fbase_le l k (i + 1) hk2 (by omega)
        rw [← hT0] at hbi
        rw [← hT1] at hbi1
        have HT0 := Aside0.mk hT0
        simp only [World.size_alloc] at hr3 hs3 ⊢
        have hwl := HB.out.size
        obtain ⟨bN, hbN⟩ : ∃ bN, bN = wr.heap.size := ⟨_, rfl⟩
        rw [← hbN] at hr3 hs3 hN3 hbMl hbs hwl ⊢
        have HbN := Lib.hid hbN
        clear hbN hBn hB3 hT0 hT1 hmm hm
        go_loopw [10] (fun vs wr' => ∃ (left N : MM) (sm : Nat), vs = .int .i64 sm ∧ MR wr' bM (bN + 1) mksV vN (okq l) M left ∧ MB wr' bN mksV vN (okq l) N ∧ Aside0 (∀ j, tot (l.map bl) k j N + tot (l.map bl) k (j + 1) left = tot (l.map bl) k (j + 1) M) ∧
          Aside0 (sm + tot (l.map bl) k 0 left = tot (l.map bl) k 0 M) ∧ Aside0 (Kd.R (Kd.int .i64) 3 wr' w.heap.size (fun _ => True) u9 (zs ((List.range i).map (fbase l k)))) ∧ Aside0 (Below w.heap.size w wr') ∧ bN + 2 ≤ wr'.heap.size) (fun _ wr' => wr'.rangeLeft bM (bN + 1))
        case atStart => exact ⟨M, [], 0, rfl, hr3, hN3, ⟨fun j => by simp [tot]⟩, ⟨by simp⟩, HO3, HB3, by omega⟩
        case round =>
          clear hr3 hN3 HO3 HB3 hs3
          obtain ⟨left, N, sm, rfl, hr4, hN4, HS, HU, HO4, HB4, hz4⟩ := hrel
          have hsm := HU.out
          go_wp2_with (first
            | (at_next
               refine wpList_next_mr rfl (.tmp 42) rfl rfl hr4 (fun hl => ?_) (fun p x q w5 hl hr5 hg5 hsz5 hen => ?_)
               rotate_left
               have hsz6 := Nat.le_of_eq hsz5.symm
               clear hsz5
               obtain ⟨m, cnt⟩ := x
               simp only [mksV, vN] at hen ⊢
               have hOK : okq l m := hr4.okL (kfq l) (m, cnt) (by rw [hl]; simp)
               have hm4 : m.length = 4 := by
                 obtain ⟨⟨h1, _⟩, _⟩ := hOK
                 exact h1
               have hA4 : (mksA m).size = 4 := by rw [mksA_size, hm4]
               have HA4 := Lib.hid hA4
               have HOK := Aside0.mk hOK
               clear hA4 hOK
               subst hl
               rw [tot_out] at hsm
               simp only [wcount, Nat.mul_one] at hsm)
            | (refine wpList_store_new rfl 92 (.tmp 12) (.tmp 46) rfl w5 _ 92 (mksA m) rfl rfl rfl (by rw [HA4.out]; rfl) (by rw [HA4.out]; kernel_rfl) (mksA_one m) ?_
               intro w6 hB6 hlt6 hblk)
            | ((with_reducible refine gate_builtin (b := .append) (xs := #[.tmp 73, .tmp 75]) rfl ?_); at_builtin; refine Kd.R_append (Kd.int .i64) (w0 := w) w.heap.size rfl (.tmp 73) (.tmp 75) 24 3 (.int .i64 0) 8 rfl Try.underlying24 info3 rfl (by decide) (by omega) u9 (zs ((List.range i).map (fbase l k))) sm [.int .i64 sm] (fun _ => True) (fun _ => False) rfl rfl rfl (fun _ hk => hk.elim) (fun _ _ => trivial) HO4.out HB4.out HB4.out.size (by rw [zs_len]; simp; omega) ?_; intro v7 w7 ho7 hb7 hg7 hat7))
          · have hbM4 := hr4.lt
            have hOut : some bN ≠ u9.ownBlock := by
              obtain ⟨o, ho, hc⟩ := hN4.obj
              exact own_ne_obj HO4.out ho hc
            have hB5 := HB4.out.grown hg5 (by omega) (fun j e => by cases e; omega)
            have hr6 : MR w6 bM (bN + 1) mksV vN (okq l) M (p ++ q) := hr5.same (hB6.block _ (by omega)) (hB6.block _ (by omega))
            have hN6 := (hN4.grown hg5 (by simp)).below hB6 (by omega)
            have hO5 := Kd.R_grown2 HO4.out rfl hg5 (fun j e => by
              cases e
              obtain ⟨es2, clock2, seen2, _, _, hrr, _⟩ := hr4.out
              exact own_ne_obj HO4.out hrr rfl)
            have HO6 := Aside0.mk (Kd.R_below hO5 hB6)
            have HB6 := Aside0.mk (hB5.trans (hB6.mono (by omega)))
            have hz6 : bN + 2 ≤ w6.heap.size := by omega
            have hwt : ∀ j, tot (l.map bl) k j N + tot (l.map bl) k (j + 1) (p ++ q) + cnt * wcount (l.map bl) k (j + 1) m = tot (l.map bl) k (j + 1) M := fun j => by
              have := HS.out j
              rw [tot_out] at this
              simp only at this
              omega
            have HW := Aside0.mk hwt
            have hrl : w6.rangeLeft bM (bN + 1) < wr.rangeLeft bM (bN + 1) := by
              rw [hr6.left_eq, hr4.left_eq]; simp
            have Hrl := Aside0.mk hrl
            have hgt : w5.heap.size < w6.heap.size := hlt6
            clear hr4 hN4 HO4 HB4 hg5 hr5 hen hB6 hO5 hB5 hwt HS hrl hOut hlt6
            obtain ⟨bX, hbX⟩ : ∃ bX, bX = w5.heap.size := ⟨_, rfl⟩
            rw [← hbX] at hblk hgt hsz6 ⊢
            have HbX := Lib.hid hbX
            clear hbX
            go_loopw [52] (fun vc wr' => ∃ (c : Nat) (N' : MM), vc = .int .i64 c ∧ c ≤ k ∧ MR wr' bM (bN + 1) mksV vN (okq l) M (p ++ q) ∧ MB wr' bN mksV vN (okq l) N' ∧ Aside0 (∀ j, tot (l.map bl) k j N' = tot (l.map bl) k j N + cnt * wpart (l.map bl) (wcount (l.map bl) k j) m c) ∧
              Aside0 (Kd.R (Kd.int .i64) 3 wr' w.heap.size (fun _ => True) u9 (zs ((List.range i).map (fbase l k)))) ∧ Aside0 (Below w.heap.size w wr') ∧ bX < wr'.heap.size ∧ Blk wr' bX (mksA m) 92 ∧ Aside0 (wr'.rangeLeft bM (bN + 1) = w6.rangeLeft bM (bN + 1))) (fun vc _ => k - (intOf vc).toNat)
            case atStart => exact ⟨0, N, rfl, Nat.zero_le _, hr6, hN6, ⟨fun j => by simp [wpart]⟩, HO6, HB6, hgt, hblk, ⟨rfl⟩⟩
            case round =>
              clear hr6 hN6 HO6 HB6 hblk hgt hz6
              obtain ⟨c, N', rfl, hc, hr8, hN8, HV, HO8, HB8, hX8, hb8, HL8⟩ := hrel
              by_cases hck : c < k
              · have hsr := hr.below HB8.out
                obtain ⟨t, ht⟩ : ∃ t, t = (mgo (97 + c) (l.map bl) m 0).1 := ⟨_, rfl⟩
                obtain ⟨bo, hbo⟩ : ∃ bo, bo = (mgo (97 + c) (l.map bl) m 0).2 := ⟨_, rfl⟩
                have hcall := mafter_any A cp l m (97 + c) wr hsr hl4 Hl8.out HOK.out.2
                rw [show ((97 + c : Nat) : Int) = 97 + (c : Int) by omega, ← ht, ← hbo] at hcall
                have Hcall := Aside0.mk hcall
                have ht4 : (mksA t).size = 4 := by rw [mksA_size, ht, mgo_length]; exact HOK.out.1.1
                have HT4 := Lib.hid ht4
                have Ht := Lib.hid ht
                have Hbo := Lib.hid hbo
                clear hcall ht4 ht hbo
                cases bo with
                | false =>
                  go_wp2_with (first
                    | (refine wpList_load_row rfl 92 (.tmp 12) rfl bX rfl 92 _ (0, 0) _ hb8.out Try.underlying92 rfl (by rw [HA4.out]; kernel_rfl) ?_)
                    | (go_at_call 60
                       refine Hcall.out.mono ?_
                       rintro e w9 ⟨rfl, hB9⟩
                       simp only [mksV])
                    | (refine wpList_store_new rfl 92 (.tmp 15) (.tmp 62) rfl w9 _ 92 (mksA t) rfl rfl rfl (by rw [HT4.out]; rfl) (by rw [HT4.out]; kernel_rfl) (mksA_one t) ?_
                       intro w10 hB10 hlt10 hblk10))
                  go_roundw
                  case rel =>
                    have hlt9 := hB9.size
                    have hlr := hr8.lt
                    have hB11 : Below wr.heap.size wr w10 := hB9.trans (hB10.mono hlt9)
                    have hr11 := hr8.same (w' := w10) (hB11.block _ (by omega)) (hB11.block _ (by omega))
                    refine ⟨c + 1, N', by go_num, by omega, hr11, hN8.below hB11 (by omega), ⟨fun j => ?_⟩, ⟨Kd.R_below HO8.out hB11⟩, ⟨HB8.out.trans (hB11.mono HB8.out.size)⟩, by omega, hb8.below hB11 (by omega), ⟨?_⟩⟩
                    · rw [HV.out j, wpart, wterm, ← Hbo.out, if_neg (by simp), Nat.add_zero]
                    · rw [hr11.left_eq, ← HL8.out, hr8.left_eq]
                  case measure => simp [intOf]; omega
                | true =>
                  go_wp2_with (first
                    | (refine wpList_load_row rfl 92 (.tmp 12) rfl bX rfl 92 _ (0, 0) _ hb8.out Try.underlying92 rfl (by rw [HA4.out]; kernel_rfl) ?_)
                    | (go_at_call 60
                       refine Hcall.out.mono ?_
                       rintro e w9 ⟨rfl, hB9⟩
                       simp only [mksV])
                    | (refine wpList_store_new rfl 92 (.tmp 15) (.tmp 62) rfl w9 _ 92 (mksA t) rfl rfl rfl (by rw [HT4.out]; rfl) (by rw [HT4.out]; kernel_rfl) (mksA_one t) ?_
                       intro w10 hB10 hlt10 hblk10))
                  have hlt9 := hB9.size
                  have hlr := hr8.lt
                  have hB11 : Below wr.heap.size wr w10 := hB9.trans (hB10.mono hlt9)
                  have hr11 := hr8.same (w' := w10) (hB11.block _ (by omega)) (hB11.block _ (by omega))
                  have hN11 := hN8.below hB11 (by omega)
                  have hOK2 : okq l t := by
                    rw [Ht.out]; exact okq_go HOK.out hl4 Hl8.out _ Hbo.out.symm
                  have hz3 : ∀ u : World, (zeroValue 3).run Try.prog u = .ok (vN 0) u := run_zero (by kernel_rfl)
                  have hlook := hN11.drew.look (kfq l) Try.underlying90 (hz3 _) t hOK2 false
                  obtain ⟨es1, clock1, st, hent, hN12, hst⟩ := hN11.drew.entry (kfq l) Try.underlying90 hz3 t hOK2
                  obtain ⟨es2, clock2, hsto, hN13⟩ := hst (setBlock w10.drew bN (.map es1 clock1)) ((getL N' t).getD 0 + cnt) (heap_block hN11.drew.lt _)
                  have hlook2 := hN12.look (kfq l) Try.underlying90 (hz3 _) t hOK2 false
                  obtain ⟨v, hv⟩ : ∃ v, v = (getL N' t).getD 0 := ⟨_, rfl⟩
                  have e1 : ((getL N' t).map vN).getD (vN 0) = vN v := by rw [hv]; cases getL N' t <;> rfl
                  have e2 : ((getL (putL N' t ((getL N' t).getD 0)) t).map vN).getD (vN 0) = vN v := by rw [hv, getL_putL]; rfl
                  rw [if_neg (by simp), e1] at hlook
                  rw [if_neg (by simp), e2] at hlook2
                  rw [← hv] at hent hsto hN12 hN13
                  have e3 : vN (v + cnt) = .int .i64 ((v : Int) + cnt) := by show Value.int .i64 ((v + cnt : Nat) : Int) = _; simp
                  rw [e3] at hsto
                  have hN13' := Aside0.mk hN13
                  have Hv := Lib.hid hv
                  have hkeys : (N'.map (·.1)).Nodup := by
                    obtain ⟨_, _, _, hme⟩ := hN8.out
                    exact hme.keys
                  have hterm : ∀ j, wterm (l.map bl) (wcount (l.map bl) k j) m c = wcount (l.map bl) k j t := fun j => by
                    unfold wterm
                    rw [← Hbo.out, if_pos rfl, ← Ht.out]
                  have hbv : (v : Int) + cnt ≤ 4611686018427387904 := by
                    have h1 := get_le (l.map bl) k N' t hkeys
                    have h2 := HV.out 0
                    have h3 := HW.out 0
                    have h4 : wpart (l.map bl) (wcount (l.map bl) k 0) m (c + 1) ≤ wpart (l.map bl) (wcount (l.map bl) k 0) m k := by
                      have := wpart_mono (l.map bl) (wcount (l.map bl) k 0) m (c + 1) (k - (c + 1))
                      rwa [show c + 1 + (k - (c + 1)) = k by omega] at this
                    rw [wpart, hterm] at h4
                    simp only [wcount] at h3 h4
                    have h5 := Nat.mul_le_mul_left cnt h4
                    rw [Nat.mul_add, Nat.mul_one] at h5
                    simp only [Nat.zero_add] at h3
                    rw [← hv] at h1
                    simp only [wcount] at h2
                    omega
                  have Hterm := Aside0.mk hterm
                  have Hkeys := Aside0.mk hkeys
                  clear hterm hkeys
                  simp only [vN, mksV] at hlook hlook2 hent hsto
                  obtain ⟨t0, t1, t2, t3, htt⟩ : ∃ t0 t1 t2 t3, t = [t0, t1, t2, t3] := by
                    have := hOK2.1.1
                    match t, this with
                    | [a, b, c, d], _ => exact ⟨a, b, c, d, rfl⟩
                  have hmk : mksA t = #[.int .i64 t0, .int .i64 t1, .int .i64 t2, .int .i64 t3] := by rw [htt]; rfl
                  rw [hmk] at hlook hlook2 hent
                  have k0 := (hblk10.as hmk).cell 0
                  have k1 := (hblk10.as hmk).cell 1
                  have k2 := (hblk10.as hmk).cell 2
                  have k3 := (hblk10.as hmk).cell 3
                  simp only [List.getElem?_toArray, List.getElem?_cons_zero, List.getElem?_cons_succ] at k0 k1 k2 k3
                  have HOK2 := Aside0.mk hOK2
                  have hwr : IntKind.i64.wrap ((v : Int) + cnt) = (v : Int) + cnt := IntWalk.i64_in _ (by omega)
                  rw [← hwr] at hsto
                  simp only [goInt] at hsto hent
                  clear htt hmk hOK2 hwr
                  have hmix : Try.prog.follows .mixedOrders = true := by kernel_rfl
                  clear e1 e2 e3 hN12 hN13 hz3 hst hv
                  have hOb : some bN ≠ u9.ownBlock := by
                    obtain ⟨o, ho, hc⟩ := hN11.obj
                    exact own_ne_obj (Kd.R_below HO8.out hB11) ho hc
                  have hg13 : w10.grownBy (setBlock (setBlock w10.drew bN (.map es1 clock1)) bN (.map es2 clock2)) (some bN) :=
                    ⟨rfl, rfl, rfl, by simp [setBlock], fun i _ hi => by rw [heap_block_ne (fun e => hi (by rw [e])), heap_block_ne (fun e => hi (by rw [e]))]; rfl⟩
                  have Hg13 := Aside0.mk hg13
                  clear hg13
                  go_region
                  all_goals
                    go_wp2
                    go_roundw
                    case rel =>
                      have hg13 := Hg13.out
                      have hbXN : bN + 2 ≤ bX := by omega
                      have hr13 := hr11.same (hg13.block bM hr11.lt.1 (fun e => by cases e; omega)) (hg13.block (bN + 1) hr11.lt.2 (fun e => by simp at e))
                      refine ⟨c + 1, _, by go_num, by omega, hr13, hN13'.out, ⟨fun j => ?_⟩, ⟨Kd.R_grown2 (Kd.R_below HO8.out hB11) rfl hg13 (fun j e => by cases e; exact hOb)⟩, ⟨(HB8.out.trans (hB11.mono HB8.out.size)).grown hg13 (by have := HB8.out.size; omega) (fun j e => by cases e; omega)⟩, by have := hg13.size; omega, (hb8.below hB11 (by omega)).grown hg13 (by simp; omega), ⟨?_⟩⟩
                      · rw [Hv.out, tot_put _ _ _ _ _ _ Hkeys.out, HV.out j, wpart, Hterm.out, Nat.mul_add]; omega
                      · rw [hr13.left_eq, ← HL8.out, hr8.left_eq]
                    case measure => simp [intOf]; omega
              · obtain rfl : c = k := by omega
                go_wp2
                have hfin : ∀ j, tot (l.map bl) c j N' + tot (l.map bl) c (j + 1) (p ++ q) = tot (l.map bl) c (j + 1) M := fun j => by
                  have h1 := HV.out j
                  have h2 := HW.out j
                  rw [h1]
                  simp only [wcount] at h2 ⊢
                  omega
                have hd : decide ((i : Int) < (n : Int) + 1) = true := decide_eq_true (by omega)
                simp only [hd]
                refine ⟨?rel0, ?measure0⟩
                case rel0 =>
                  repeat apply Exists.intro
                  refine ⟨⟨p ++ q, N', sm + cnt, ?_, hr8, hN8, ⟨hfin⟩, ⟨by omega⟩, HO8, HB8, by omega⟩, rfl⟩
                  exact int_eq (by omega)
                case measure0 =>
                  have h1 := HL8.out
                  have h2 := Hrl.out
                  omega
          · have hlf : left = [] := hl
            subst hlf
            have hOut : some bN ≠ u9.ownBlock := by
              obtain ⟨o, ho, hc⟩ := hN4.obj
              exact own_ne_obj HO4.out ho hc
            have hsm2 : sm = fbase l k i := by
              have := HU.out
              have h2 := HT0.out
              simp only [tot] at this
              omega
            go_roundw
            case rel =>
              refine ⟨i + 1, bN, N, rfl, by go_num, by omega, hN4.grown hg7 hOut, by omega, ⟨fun j => ?_⟩, ⟨?_⟩, ⟨hb7⟩, by have := hg7.size; omega⟩
              · have h1 := HS.out j
                have h2 := HT.out (j + 1)
                simp only [tot, Nat.add_zero] at h1
                rw [h1, h2, show i + (j + 1) = i + 1 + j by omega]
              · rw [List.range_succ, List.map_append, List.map_cons, List.map_nil, zs_snoc, ← hsm2]
                exact ho7
            case measure => simp [intOf]; omega
      · obtain rfl : i = n + 1 := by omega
        go_wp2
        go_ret2
        exact ⟨_, rfl, HO.out, HB.out⟩
end Go.Proofs.Ytfjbodaakmapdaa
