/-
  The walk of thread.differ.
-/
import Derived.Test.YtfjbodaakmapdaaDif
namespace Go.Proofs.Ytfjbodaakmapdaa
open Go.RowKit Go.Shelf Th Kit Go.Proofs.YtfjbodaakmapdaaW.PrintWords
open Go.ChangeMaps (setBlock)
attribute [local go_sem] Oper.semAt_some

/-! ### A look-up and a store at the operation, inside a fence -/
section
variable {κ ν : Type} [DecidableEq κ] {F : Fence} {nF : Nat} {P : Program} {w : World} {ops : Array Oper} {rest : List Oper} {o : Oper} {a : Act} {Q : Exit → Act → World → Prop} {K E : TypeId} {kf : κ → Value} {vf : ν → Value} {ok : κ → Prop} {b : Nat} {l : List (κ × ν)}
theorem wpListIn_look (hg : o.guard = none) (m x : Operand) (t : TypeId) (c : Bool) (hop : o.op = Op.lookup t m x c) (H : KF P K kf ok) (h : MB w b kf vf ok l) (ht : P.underlying t = some (.map K E)) {z : Value} (hz : (zeroValue E).run P w = .ok z w)
    (k : κ) (hk : ok k) (hm : a.eval m = .map (some b)) (hx : a.eval x = kf k)
    (hK : wpListIn F nF P ops Q rest (a.put o.dst (if c then .tuple #[((getL l k).map vf).getD z, .bool (getL l k).isSome] else ((getL l k).map vf).getD z)) w) : wpListIn F nF P ops Q (o :: rest) a w := by
  refine wpListIn_plain hg fun K' hK' => ?_
  have hrun := h.look H ht hz k hk c
  unfold Oper.wpIn
  refine ⟨by simp [Oper.about, hop], ?_⟩
  rw [Oper.semAt_plain F _ _ (by rw [hop]; intro c hc'; cases hc')]
  simp only [execOp, hop, hm, hx, Sem.run_bind, Sem.run_pure, hrun, Result.andThen_ok]
  exact hK' _ _ hK
theorem wpListIn_mapset (hg : o.guard = none) (m x v : Operand) (t : TypeId) (hop : o.op = Op.mapUpdate t m x v) (H : KF P K kf ok) (h : MB w b kf vf ok l) (ht : P.underlying t = some (.map K E))
    (k : κ) (hk : ok k) (u : ν) (hm : a.eval m = .map (some b)) (hx : a.eval x = kf k) (hv : a.eval v = vf u)
    (hK : ∀ es clock, MB (setBlock w b (.map es clock)) b kf vf ok (putL l k u) → wpListIn F nF P ops Q rest (a.put o.dst undef) (setBlock w b (.map es clock))) : wpListIn F nF P ops Q (o :: rest) a w := by
  refine wpListIn_plain hg fun K' hK' => ?_
  obtain ⟨es, clock, hrun, hm2⟩ := h.store H ht k hk u
  unfold Oper.wpIn
  refine ⟨by simp [Oper.about, hop], ?_⟩
  rw [Oper.semAt_plain F _ _ (by rw [hop]; intro c hc'; cases hc')]
  simp only [execOp, hop, hm, hx, hv, Sem.run_bind, Sem.run_pure, hrun, Result.andThen_ok]
  exact hK' _ _ (hK es clock hm2)
end

theorem grown_setBlock (w : World) (b : Nat) (o : Obj) : w.grownBy (setBlock w b o) (some b) :=
  ⟨rfl, rfl, rfl, by simp [setBlock], fun i _ hi => heap_block_ne (fun e => hi (by rw [e])) _⟩
theorem grown_setCell (w : World) (p : Addr) (v : Value) : w.grownBy (w.setCell p v) (some p.block) :=
  ⟨rfl, rfl, rfl, by simp, fun i _ hi => Below.heap_setCell w p v i (fun e => hi (by rw [e]))⟩
theorem grown_drewN (w : World) (k : Nat) : w.grownBy (w.drewN k) none := ⟨rfl, rfl, rfl, Nat.le_refl _, fun _ _ _ => rfl⟩

def stepV (v : Pr × ByteArray) : Value := .agg #[.int .i64 v.1.1, .int .i64 v.1.2, .string v.2]
def flatQ (Q : List (Pr × List Nat)) : List Value := Q.flatMap fun e => [.int .i64 e.1.1, .int .i64 e.1.2]

theorem own_kind {w : World} {B : Nat} {e : TypeId} {size k : Nat} {v : Value} {xs : List Value} (h : w.ownsRow B e size v k xs) (g : Nat) (hg : v.ownBlock = some g) : ∃ c fz, w.heap[g]? = some (.cells c e fz) := by
  rcases h.2 with ⟨rfl, _⟩ | ⟨g', cap, cur, rfl, _, hh, _⟩
  · cases hg
  · have : g' = g := by simpa [Value.ownBlock] using hg
    subst this
    exact ⟨_, _, hh⟩
theorem own_form {w : World} {B : Nat} {e : TypeId} {size k : Nat} {v : Value} {xs : List Value} (h : w.ownsRow B e size v k xs) (hk : 0 < k) : ∃ g cap, v = .slice (some ⟨g, 0, none⟩) k cap := by
  rcases h.2 with ⟨_, rfl⟩ | ⟨g', cap, cur, rfl, _⟩
  · omega
  · exact ⟨_, _, rfl⟩

theorem leaves_marks2 {F : Fence} {n : Nat} {P : Program} {fn : Func} {tmps : Array Value} {R : Ending → World → Prop} {v : Value} {B : Nat} : ∀ (ds : List Deferred) (w : World) (top : Nat),
    Marks B w ds top → (∀ w', Below B w w' → (results fn tmps).run P w' = .ok v w') → (∀ w', Below B w w' → R (.returned v) w') → LeavesInM F n P fn tmps R ds .returning w
  | [], w, _, _, hr, hR => ⟨v, hr w (Below.refl _ _), hR w (Below.refl _ _)⟩
  | _ :: ds, w, _, ⟨D, e, h1, _, h3, h4⟩, hr, hR => by
    subst e
    exact ⟨by simp, .inl ⟨D, _, rfl, run_takeDeferred h3, leaves_marks2 ds _ D h4.put (fun w' hb => hr w' ((below_put h1 w _).trans hb)) fun w' hb => hR w' ((below_put h1 w _).trans hb)⟩⟩
theorem results_cell_string {fn : Func} {p : Tmp} (h : fn.results = #[.cell p 9]) (tmps : Array Value) (w : World) (b : Nat) (s : ByteArray) (hp : tmps.getD p undef = .pointer (some ⟨b, 0, none⟩)) (hb : Blk w b #[.string s] 9) :
    (results fn tmps).run Try.prog w = .ok (.string s) w := by
  have hp' : tmps[p]?.getD undef = .pointer (some ⟨b, 0, none⟩) := by simpa using hp
  have hc := hb.cell 0
  simp only [List.getElem?_toArray, List.getElem?_cons_zero] at hc
  simp [results, h, hp', asAddr, loadVar, hc, go_sem]
theorem Kit.Marks.from_ {B : Nat} {w w' : World} {ds : List Deferred} {top : Nat} (h : Marks B w ds top) (hk : KeepsFrom B w w') : Marks B w' ds top := h.imp fun D h1 _ h3 => hk.same D _ h1 h3 rfl

/-- differ's memory: the boxes of its words, its result, its map and its queue; n: where the first of them lies. -/
structure DS (n bx by' : Nat) (s t : ByteArray) (W : World) (Q : List (Pr × List Nat)) (F : List (Pr × (Pr × ByteArray))) (qv : Value) : Prop where
  h2 : Blk W n #[.pointer (some ⟨bx, 0, none⟩)] 67
  h3 : Blk W (n + 1) #[.pointer (some ⟨by', 0, none⟩)] 67
  h4 : Blk W (n + 2) #[.string ⟨#[]⟩] 9
  h5 : Blk W (n + 4) #[.map (some (n + 3))] 100
  h6 : Blk W (n + 6) #[qv] 103
  hm : MB W (n + 3) pairV stepV okP F
  hq : W.ownsRow (n + 5) 102 2 qv Q.length (flatQ Q)
  hx : IsWord W bx s
  hy : IsWord W by' t
theorem DS.grown {n bx by' : Nat} {s t : ByteArray} {W W' : World} {Q : List (Pr × List Nat)} {F : List (Pr × (Pr × ByteArray))} {qv : Value} {row : Option Nat} (h : DS n bx by' s t W Q F qv) (hbx : bx < n) (hby : by' < n)
    (hg : W.grownBy W' row) (hr : ∀ r, row = some r → n + 7 ≤ r ∧ qv.ownBlock ≠ some r) : DS n bx by' s t W' Q F qv := by
  have hne : ∀ b, b < n + 7 → some b ≠ row := fun b hb e => by have := (hr b e.symm).1; omega
  refine ⟨h.h2.grown hg (hne _ (by omega)), h.h3.grown hg (hne _ (by omega)), h.h4.grown hg (hne _ (by omega)), h.h5.grown hg (hne _ (by omega)), h.h6.grown hg (hne _ (by omega)), h.hm.grown hg (hne _ (by omega)), h.hq.kept hg ?_, h.hx.grown hg (hne _ (by omega)), h.hy.grown hg (hne _ (by omega))⟩
  cases row with
  | none => cases hb : qv.ownBlock with
    | none => exact .inl rfl
    | some k => exact .inr (by simp)
  | some r => exact .inr (hr r rfl).2
/-- An iterator's own block turns. -/
theorem DS.turn {n bx by' B : Nat} {s t : ByteArray} {W W' : World} {Q : List (Pr × List Nat)} {F : List (Pr × (Pr × ByteArray))} {qv : Value} {row : Option Nat} (h : DS n bx by' s t W Q F qv) (hbx : bx < n) (hby : by' < n) (hB : n + 7 ≤ B)
    (hg : W.grownBy W' row) (hr : Turn B W row) : DS n bx by' s t W' Q F qv := by
  refine h.grown hbx hby hg fun r e => ?_
  obtain ⟨h1, o, ho, hc⟩ := hr r e
  refine ⟨by omega, fun e2 => ?_⟩
  obtain ⟨c, fz, hcells⟩ := own_kind h.hq r e2
  rw [hcells] at ho
  cases ho
  cases hc

theorem flatQ_at : ∀ {Q : List (Pr × List Nat)} {k : Nat} {p : Pr} {wd : List Nat}, Q[k]? = some (p, wd) → (flatQ Q)[k * 2]? = some (.int .i64 p.1) ∧ (flatQ Q)[k * 2 + 1]? = some (.int .i64 p.2)
  | [], k, p, wd, h => by simp at h
  | e :: Q, 0, p, wd, h => by
    simp only [List.getElem?_cons_zero, Option.some.injEq] at h
    subst h
    exact ⟨rfl, rfl⟩
  | e :: Q, k + 1, p, wd, h => by
    have := flatQ_at (Q := Q) (k := k) (by simpa using h)
    rw [show (k + 1) * 2 = k * 2 + 2 by omega]
    exact this

theorem keepsFrom_turn {B : Nat} {W2 A C : World} {row : Option Nat} (h : KeepsFrom B W2 A) (hg : A.grownBy C row) (hr : Turn W2.heap.size A row) : KeepsFrom B W2 C :=
  ⟨Nat.le_trans h.size hg.size, fun k o hk hko hc => by
    have hlt := (Array.getElem?_eq_some_iff.1 hko).1
    have h1 := h.same k o hk hko hc
    exact (hg.block k (Array.getElem?_eq_some_iff.1 h1).1 (fun e => by have := (hr k e.symm).1; omega)).trans h1⟩
theorem after_at (b : Nat) (s : ByteArray) (i c : Int) (i' c' a : Nat) (r : Bool) (w : World) (hw : IsWord w b s) (h60 : s.size ≤ 60) (hi : i = i') (hc : c = c') (hi' : i' ≤ s.size) (hc' : c' < 4)
    (hr : decide (nx (bl s) c' i' < s.size) = r) (ha : a = nx (bl s) c' i' + 1) :
    Calls Try.prog 47 #[.pointer (some ⟨b, 0, none⟩), .int .i64 i, .int .i64 c] w fun e w' => e = .returned (.tuple #[.int .i64 (a : Int), .bool r]) ∧ ∃ n, w' = w.drewN n := by
  rw [ha]
  refine (after_any b s i c i' c' r w hw h60 hi hc hi' hc' hr).mono fun e w' h => ?_
  obtain ⟨h1, h2⟩ := h
  exact ⟨by rw [h1]; simp, h2⟩
def strLen (v : Value) : Nat := match v with
  | .string s => s.size
  | _ => 0
theorem ChangeKeysEq_run {P : Program} {t : TypeId} {i : TypeInfo} (h : P.info? t = some i) (w : World) : (typeInfo t).run P w = .ok i w := by
  simp [typeInfo, h]
theorem run_zero {P : Program} {t : TypeId} {z : Value} (h : (P.info? t).map (·.zero) = some (some z)) (w : World) : (zeroValue t).run P w = .ok z w := by
  cases hi : P.info? t with
  | none => rw [hi] at h; cases h
  | some i =>
    rw [hi] at h
    simp only [Option.map_some, Option.some.injEq] at h
    simp only [zeroValue, Sem.run_bind, ChangeKeysEq_run hi w, Result.andThen_ok, h]; rfl
theorem zero105 (w : World) : (zeroValue 105).run Try.prog w = .ok (stepV ((0, 0), ⟨#[]⟩)) w := run_zero (by kernel_rfl) w

/-- Within the letters of one round. b8: where the pair lies. -/
structure DI (n b8 bx by' : Nat) (s t : ByteArray) (p : Pr) (wd : List Nat) (Q : List (Pr × List Nat)) (at' : Nat) (W2 : World) (pr : List (Fin 4)) (W : World) (Q' : List (Pr × List Nat)) (F' : List (Pr × (Pr × ByteArray))) (qv' : Value) : Prop where
  run : drun (bl s) (bl t) p wd (pr.map (·.val)) Q = .go Q'
  dq : DQ (bl s) (bl t) Q'
  df : DF Q' F'
  here : Q'[at']? = some (p, wd)
  ds : DS n bx by' s t W Q' F' qv'
  pair : Blk W b8 #[.int .i64 p.1, .int .i64 p.2] 102
  ne : qv'.ownBlock ≠ some b8
  keeps : KeepsFrom (n + 7) W2 W
  below : Below n W2 W

theorem KeepsFrom.mono_ {B B' : Nat} {W W' : World} (h : KeepsFrom B W W') (hB : B ≤ B') : KeepsFrom B' W W' := ⟨h.size, fun k o hk => h.same k o (Nat.le_trans hB hk)⟩
theorem fld1 (a b : Int) (s : ByteArray) (w : World) : (Instr.field 105 (.agg #[.int .i64 a, .int .i64 b, .string s]) 1).run Try.prog w = .ok (.string s) w := by
  simp [Instr.field, run_underlying Try.underlying105, go_sem, asAgg]
theorem fld0 (a b : Int) (s : ByteArray) (w : World) : (Instr.field 105 (.agg #[.int .i64 a, .int .i64 b, .string s]) 0).run Try.prog w = .ok (.agg #[.int .i64 a, .int .i64 b]) w := by
  simp [Instr.field, run_underlying Try.underlying105, go_sem, asAgg]
theorem info102 : (Try.prog.info? 102).map (fun i => (i.zero, i.size, i.bytes)) = some (some (.agg #[.int .i64 0, .int .i64 0]), 2, 16) := by kernel_rfl
theorem drun_snoc {x y : List Nat} {p : Pr} {wd a : List Nat} {Q Q' : List (Pr × List Nat)} (c : Nat) (h : drun x y p wd a Q = .go Q') : drun x y p wd (a ++ [c]) Q = dstep x y p wd Q' c := by
  rw [drun_append, h]
  simp only [drun]
  cases dstep x y p wd Q' c <;> rfl
theorem own_ne_small {W : World} {B e size k b t : Nat} {v : Value} {xs : List Value} {cs : Array Value} (h : W.ownsRow B e size v k xs) (hb : Blk W b cs t) (hc : cs.size < k * size) : v.ownBlock ≠ some b := by
  intro e1
  rcases h.2 with ⟨rfl, _⟩ | ⟨g, cap, cur, rfl, _, hh, h1, _, h2, _⟩
  · cases e1
  · have : g = b := by simpa [Value.ownBlock] using e1
    subst this
    rw [hb.out] at hh
    have h3 : cs = cur := by simpa using (Obj.cells.inj (Option.some.inj hh)).1
    subst h3
    have := Nat.mul_le_mul_right size h1
    omega
theorem own_ne_type {W : World} {B e size k b t : Nat} {v : Value} {xs : List Value} {cs : Array Value} (h : W.ownsRow B e size v k xs) (hb : Blk W b cs t) (hc : t ≠ e) : v.ownBlock ≠ some b := by
  intro e1
  obtain ⟨c, fz, h1⟩ := own_kind h b e1
  rw [hb.out] at h1
  exact hc (Obj.cells.inj (Option.some.inj h1)).2.1
theorem DS.putMap {n bx by' : Nat} {s t : ByteArray} {W : World} {Q : List (Pr × List Nat)} {F F2 : List (Pr × (Pr × ByteArray))} {qv : Value} {o : Obj} (h : DS n bx by' s t W Q F qv) (hbx : bx < n) (hby : by' < n)
    (hm : MB (setBlock W (n + 3) o) (n + 3) pairV stepV okP F2) : DS n bx by' s t (setBlock W (n + 3) o) Q F2 qv := by
  have hg := grown_setBlock W (n + 3) o
  have hne : ∀ b, b ≠ n + 3 → some b ≠ some (n + 3) := fun b hb e => hb (Option.some.inj e)
  refine ⟨h.h2.grown hg (hne _ (by omega)), h.h3.grown hg (hne _ (by omega)), h.h4.grown hg (hne _ (by omega)), h.h5.grown hg (hne _ (by omega)), h.h6.grown hg (hne _ (by omega)), hm, h.hq.kept hg (.inr ?_), h.hx.grown hg (hne _ (by omega)), h.hy.grown hg (hne _ (by omega))⟩
  intro e
  have := (h.hq.lt (n + 3) e).1
  omega
theorem DS.push {n bx by' g cap : Nat} {s t : ByteArray} {W W' : World} {Q : List (Pr × List Nat)} {F : List (Pr × (Pr × ByteArray))} {v' : Value} (h : DS n bx by' s t W Q F (.slice (some ⟨g, 0, none⟩) Q.length cap)) (hbx : bx < n) (hby : by' < n)
    (hg : W.grownBy W' (some g)) (e : Pr × List Nat) (ho : W'.ownsRow (n + 5) 102 2 v' (Q.length + 1) (flatQ Q ++ [.int .i64 e.1.1, .int .i64 e.1.2])) : DS n bx by' s t (W'.setCell ⟨n + 6, 0, none⟩ v') (Q ++ [e]) F v' := by
  have h1 := (h.hq.lt g rfl).1
  have h2 := own_ne_type h.hq h.h6 (by omega)
  have hne : ∀ b, b < n + 5 ∨ b = n + 6 → some b ≠ some g := fun b hb e => by
    cases e
    rcases hb with hb | hb
    · omega
    · subst hb; exact h2 rfl
  have h6 := h.h6.grown hg (hne _ (.inr rfl))
  have h3 := own_ne_type ho h6 (by omega)
  have ho2 := ho.kept (grown_setCell W' ⟨n + 6, 0, none⟩ v') (.inr h3)
  refine ⟨(h.h2.grown hg (hne _ (by omega))).other _ (by simp) _, (h.h3.grown hg (hne _ (by omega))).other _ (by simp) _, (h.h4.grown hg (hne _ (by omega))).other _ (by simp) _, (h.h5.grown hg (hne _ (by omega))).other _ (by simp) _, h6.set1 _,
    (h.hm.grown hg (hne _ (by omega))).setCell _ (by simp) _, ?_, (h.hx.grown hg (hne _ (by omega))).other _ (by simp; omega) _, (h.hy.grown hg (hne _ (by omega))).other _ (by simp; omega) _⟩
  rw [List.length_append]
  unfold flatQ at ho2 ⊢
  rw [List.flatMap_append]
  exact ho2

set_option maxRecDepth 100000 in
set_option maxHeartbeats 2000000 in
theorem differ_any (bx by' : Nat) (s t : ByteArray) (w : World) (hx : IsWord w bx s) (hy : IsWord w by' t) (hs60 : s.size ≤ 60) (ht60 : t.size ≤ 60) :
    Calls Try.prog 51 #[.pointer (some ⟨bx, 0, none⟩), .pointer (some ⟨by', 0, none⟩)] w fun e w' => e = .returned (.string (str (dbfs (bl s) (bl t) 3722 0 [((0, 0), [])]))) ∧ Below w.heap.size w w' := by
  have Hbs := Lib.hid (bl_len s)
  have Hbt := Lib.hid (bl_len t)
  have hbx := hx.lt
  have hby := hy.lt
  have hmm := @run_makeMap Try.prog
  refine (callsIn_wide (n := 9)).1 ?_
  refine callsIn_of_wp_marks Try.func51 rfl trivial ?_ rfl
  simp only [Try.ntmps51, List.size_toArray, List.length_cons, List.length_nil, Nat.reduceAdd, Nat.reduceSub, Array.replicate_succ, Array.replicate_zero, List.push_toArray, List.append_toArray, List.nil_append, List.cons_append]
  refine wpIn_wide.2 ?_
  go_wp2_with fail
  obtain ⟨n, hn⟩ : ∃ n, n = w.heap.size := ⟨_, rfl⟩
  obtain ⟨W0, hW0⟩ : ∃ W0, W0 = (((((((w.alloc (Obj.cells #[Value.pointer (some { block := bx, off := 0 })] 67)).alloc (Obj.cells #[Value.pointer (some { block := by', off := 0 })] 67)).alloc (Obj.cells #[Value.string { data := #[] }] 9)).alloc (Obj.map #[] 0)).alloc
    (Obj.cells #[Value.map (some (w.heap.size + 1 + 1 + 1))] 100)).alloc (Obj.cells #[Value.int IntKind.i64 0, Value.int IntKind.i64 0] 102)).alloc (Obj.cells #[Value.slice (some { block := w.heap.size + 1 + 1 + 1 + 1 + 1, off := 0 }) 1 1] 103)) := ⟨_, rfl⟩
  rw [← hW0]
  have hsz0 : W0.heap.size = n + 7 := by rw [hW0, hn]; simp
  have hB0 : Below n w W0 := by
    rw [hW0, hn]
    exact (((((((Below.refl _ _).alloc (Nat.le_refl _) _).alloc (by simp <;> omega) _).alloc (by simp <;> omega) _).alloc (by simp <;> omega) _).alloc (by simp <;> omega) _).alloc (by simp <;> omega) _).alloc (by simp <;> omega) _
  have hD0 : DS n bx by' s t W0 [((0, 0), [])] [] (.slice (some ⟨n + 5, 0, none⟩) 1 1) := by
    rw [hW0, hn]
    have h5 := Blk.new ((((w.alloc (Obj.cells #[Value.pointer (some { block := bx, off := 0 })] 67)).alloc (Obj.cells #[Value.pointer (some { block := by', off := 0 })] 67)).alloc (Obj.cells #[Value.string { data := #[] }] 9)).alloc (Obj.map #[] 0)) #[Value.map (some (w.heap.size + 1 + 1 + 1))] 100
    have hm := MB.new (((w.alloc (Obj.cells #[Value.pointer (some { block := bx, off := 0 })] 67)).alloc (Obj.cells #[Value.pointer (some { block := by', off := 0 })] 67)).alloc (Obj.cells #[Value.string { data := #[] }] 9)) pairV stepV okP
    have h6 := Blk.new ((((((w.alloc (Obj.cells #[Value.pointer (some { block := bx, off := 0 })] 67)).alloc (Obj.cells #[Value.pointer (some { block := by', off := 0 })] 67)).alloc (Obj.cells #[Value.string { data := #[] }] 9)).alloc (Obj.map #[] 0)).alloc (Obj.cells #[Value.map (some (w.heap.size + 1 + 1 + 1))] 100)).alloc (Obj.cells #[Value.int IntKind.i64 0, Value.int IntKind.i64 0] 102)) #[Value.slice (some { block := w.heap.size + 1 + 1 + 1 + 1 + 1, off := 0 }) 1 1] 103
    have hq := World.ownsRow_lit (base := w.heap.size + 5) (e := 102) (size := 2) (((((w.alloc (Obj.cells #[Value.pointer (some { block := bx, off := 0 })] 67)).alloc (Obj.cells #[Value.pointer (some { block := by', off := 0 })] 67)).alloc (Obj.cells #[Value.string { data := #[] }] 9)).alloc (Obj.map #[] 0)).alloc (Obj.cells #[Value.map (some (w.heap.size + 1 + 1 + 1))] 100)) #[Value.int IntKind.i64 0, Value.int IntKind.i64 0] 1 (by simp) (by unfold maxLen; omega) rfl
    simp only [World.size_alloc] at h5 hm h6 hq
    exact ⟨((((((Blk.new w _ 67).alloc _).alloc _).alloc _).alloc _).alloc _).alloc _, (((((Blk.new2 w _ _ 67).alloc _).alloc _).alloc _).alloc _).alloc _, ((((Blk.new3 w _ _ _ 9).alloc _).alloc _).alloc _).alloc _, (h5.alloc _).alloc _, h6, ((hm.alloc _).alloc _).alloc _, hq.alloc _,
      hx.below (((((((Below.refl _ _).alloc (Nat.le_refl _) _).alloc (by simp) _).alloc (by simp; omega) _).alloc (by simp; omega) _).alloc (by simp; omega) _).alloc (by simp; omega) _ |>.alloc (by simp; omega) _),
      hy.below (((((((Below.refl _ _).alloc (Nat.le_refl _) _).alloc (by simp) _).alloc (by simp; omega) _).alloc (by simp; omega) _).alloc (by simp; omega) _).alloc (by simp; omega) _ |>.alloc (by simp; omega) _)⟩
  rw [← hn] at hbx hby ⊢
  have Hn := Lib.hid hn
  clear hW0 hmm hx hy hn
  simp only [Nat.add_assoc, Nat.reduceAdd]
  refine wp_loop (fun a wr => ∃ (u8 u21 u22 u23 u24 u25 u26 u27 u28 u29 u30 u31 : Value) (ds : List Deferred) (at' f top : Nat) (Q : List (Pr × List Nat)) (F : List (Pr × (Pr × ByteArray))) (qv : Value),
    a = { tmps := #[Value.pointer (some ⟨bx, 0, none⟩), Value.pointer (some ⟨by', 0, none⟩), Value.pointer (some ⟨n, 0, none⟩), Value.pointer (some ⟨n + 1, 0, none⟩), Value.pointer (some ⟨n + 2, 0, none⟩), Value.pointer (some ⟨n + 4, 0, none⟩), Value.pointer (some ⟨n + 6, 0, none⟩), Value.int IntKind.i64 (at' : Int), u8, undef, undef, undef, undef, undef, undef, undef, undef, undef, Value.map (some (n + 3)), Value.agg #[Value.int IntKind.i64 0, Value.int IntKind.i64 0], Value.slice (some ⟨n + 5, 0, none⟩) 1 1, u21, u22, u23, u24, u25, u26, u27, u28, u29, u30, u31, undef, undef, undef, undef, undef, undef, undef, undef, undef, undef, undef, undef, undef, undef, undef, undef, undef, undef, undef, undef, undef, undef, undef, undef, undef, undef, undef, undef, undef, undef, undef, undef, undef, undef, undef, undef, undef, undef, undef, undef, undef, undef, undef, undef, undef, undef, undef, undef, undef, undef, undef, undef, undef, undef, undef, undef, undef, undef, undef, undef], defers := ds } ∧ at' ≤ Q.length ∧ 3722 ≤ f + at' ∧ RowKit.Hid (dbfs (bl s) (bl t) 3722 0 [((0, 0), [])] = dbfs (bl s) (bl t) f at' Q) ∧ DQ (bl s) (bl t) Q ∧ DF Q F ∧ DS n bx by' s t wr Q F qv ∧ Below n w wr ∧ Marks (n + 7) wr ds top ∧ top ≤ wr.heap.size)
    (fun a _ => 3722 - (intOf (a.tmps.getD 7 undef)).toNat) ?_ ?_
  · exact ⟨_, _, _, _, _, _, _, _, _, _, _, _, [], 0, 3722, 0, _, _, _, rfl, by simp, by omega, Lib.hid rfl, DQ.first _ _, DF.first, hD0, hB0, trivial, Nat.zero_le _⟩
  rintro a wr ⟨u8, u21, u22, u23, u24, u25, u26, u27, u28, u29, u30, u31, ds, at', f, top, Q, F, qv, rfl, hat, hf, Hit, hQ, hF, hD, hB, hM, htop⟩
  have hqlen := hQ.size (by rw [Hbs.out]; exact hs60) (by rw [Hbt.out]; exact ht60)
  obtain ⟨g, cap, rfl⟩ := own_form hD.hq hQ.ne
  have c2 := hD.h2.cell 0
  have c6 := hD.h6.cell 0
  simp only [List.getElem?_toArray, List.getElem?_cons_zero] at c2 c6
  by_cases hlt : at' < Q.length
  · obtain ⟨⟨⟨i, j⟩, wd⟩, hQat⟩ : ∃ e, Q[at']? = some e := ⟨_, List.getElem?_eq_getElem hlt⟩
    have q1 := hD.hq.cellAt (at' * 2) (by omega)
    have q2 := hD.hq.cellAt (at' * 2 + 1) (by omega)
    have q3 := flatQ_at hQat
    rw [q3.1] at q1
    rw [q3.2] at q2
    have hbnd := hQ.inX _ (List.mem_of_getElem? hQat)
    rw [Hbs.out, Hbt.out] at hbnd
    simp only at hbnd
    go_wp2_with fail
    refine (callsIn_wide.1 (alphabet_in Fence.wide 8 trivial rfl 4 _)).mono ?_
    rintro e w2' ⟨rfl, rfl⟩
    have hD2 := (hD.grown hbx hby (World.grownBy_alloc wr (.cells #[.int .i64 i, .int .i64 j] 102) none) (fun _ h => by cases h)).grown hbx hby (World.grownBy_alloc _ (.cells #[.int .i64 4] 3) none) (fun _ h => by cases h)
    have hp2 := (Blk.new wr #[.int .i64 i, .int .i64 j] 102).alloc (.cells #[.int .i64 4] 3)
    have hb2 := Blk.new2 wr (.cells #[.int .i64 i, .int .i64 j] 102) #[.int .i64 4] 3
    have hM2 := (hM.alloc (.cells #[.int .i64 i, .int .i64 j] 102)).alloc (.cells #[.int .i64 4] 3)
    have hn7 : n + 7 ≤ wr.heap.size := by have := hD.h6.lt; omega
    have hB2 := (hB.alloc (by omega) (.cells #[.int .i64 i, .int .i64 j] 102)).alloc (by simp; omega) (.cells #[.int .i64 4] 3)
    have hsz : ((wr.alloc (.cells #[.int .i64 i, .int .i64 j] 102)).alloc (.cells #[.int .i64 4] 3)).heap.size = wr.heap.size + 2 := by simp
    have hgl := (hD.hq.lt g rfl).2
    have hsz1 : (wr.alloc (.cells #[.int .i64 i, .int .i64 j] 102)).heap.size = wr.heap.size + 1 := by simp
    rw [hsz1] at *
    generalize (wr.alloc (.cells #[.int .i64 i, .int .i64 j] 102)).alloc (.cells #[.int .i64 4] 3) = W2 at hD2 hp2 hb2 hM2 hB2 hsz ⊢
    clear hD hM c2 c6 q1 q2 q3
    go_wp2
    have c4 := hb2.cell 0
    simp only [List.getElem?_toArray, List.getElem?_cons_zero] at c4
    refine (wpIn_wide (n := 9)).1 ?_
    refine wpIn_rangeFunc_ownG (F := Fence.wide) (n := 9) rfl (by omega) (gf := 64) (lb := #[.pointer (some ⟨wr.heap.size + 1, 0, none⟩)]) rfl trivial (enters_of Try.func64 (by kernel_rfl) rfl)
      (alpha_stops Fence.wide 8 trivial rfl (by omega) (wr.heap.size + 1) 4 (by omega) W2 (by omega) c4) (fun _ _ => trivial) (fun _ _ _ _ _ _ _ _ => trivial) (Below.refl _ _) (fun _ => rfl)
      (fun pr W => ∃ Q' F' qv', DI n wr.heap.size bx by' s t (i, j) wd Q at' W2 pr W Q' F' qv')
      (fun c pr W => c = .ret ∧ ∃ fw, drun (bl s) (bl t) (i, j) wd (pr.map (·.val)) Q = .fin fw ∧ Blk W (n + 2) #[.string (str fw)] 9 ∧ KeepsFrom (n + 7) W2 W ∧ Below n W2 W)
      (fun pr A B row hs hg hr => ?turn)
      (fun c pr A B row hs hg hr => ?turnx)
      ⟨Q, F, .slice (some ⟨g, 0, none⟩) Q.length cap, ?h0⟩
      (fun x => { tmps := #[Value.pointer (some ⟨bx, 0, none⟩), Value.pointer (some ⟨by', 0, none⟩), Value.pointer (some ⟨n, 0, none⟩), Value.pointer (some ⟨n + 1, 0, none⟩), Value.pointer (some ⟨n + 2, 0, none⟩), Value.pointer (some ⟨n + 4, 0, none⟩), Value.pointer (some ⟨n + 6, 0, none⟩), Value.int IntKind.i64 (at' : Int), Value.pointer (some ⟨wr.heap.size, 0, none⟩), Value.int IntKind.i64 (x.val : Int), Value.string (letter x.val), undef, undef, undef, undef, undef, undef, undef, Value.map (some (n + 3)), Value.agg #[Value.int IntKind.i64 0, Value.int IntKind.i64 0], Value.slice (some ⟨n + 5, 0, none⟩) 1 1, Value.int IntKind.i64 (at' : Int), Value.slice (some ⟨g, 0, none⟩) Q.length cap, Value.int IntKind.i64 Q.length, Value.bool true, u25, u26, Value.slice (some ⟨g, 0, none⟩) Q.length cap, Value.int IntKind.i64 (at' : Int), Value.pointer (some ⟨g, at' * 2, none⟩), Value.agg #[Value.int IntKind.i64 i, Value.int IntKind.i64 j], Value.func (Fn.func 64) #[] #[Value.pointer (some ⟨wr.heap.size + 1, 0, none⟩)], Value.int IntKind.i64 (x.val : Int), Value.string (letter x.val), undef, undef, undef, undef, undef, undef, undef, undef, undef, undef, undef, undef, undef, undef, undef, undef, undef, undef, undef, undef, undef, undef, undef, undef, undef, undef, undef, undef, undef, undef, undef, undef, undef, undef, undef, undef, undef, undef, undef, undef, undef, undef, undef, undef, undef, undef, undef, undef, undef, undef, undef, undef, undef, undef, undef, undef, undef, undef], defers := [] }) ?assign ?body ?done ?stop
    case turn =>
      obtain ⟨Q', F', qv', h⟩ := hs
      have hsA := h.keeps.size
      exact ⟨Q', F', qv', h.run, h.dq, h.df, h.here, h.ds.turn hbx hby (B := W2.heap.size) (by omega) hg hr, h.pair.turn hg hr, h.ne, keepsFrom_turn h.keeps hg hr, h.below.grown hg (by omega) (fun k e => by have := (hr k e).1; omega)⟩
    case turnx =>
      obtain ⟨e, fw, h1, h2, h3, h4⟩ := hs
      have hsA := h3.size
      exact ⟨e, fw, h1, h2.turn hg hr, keepsFrom_turn h3 hg hr, h4.grown hg (by omega) (fun k e => by have := (hr k e).1; omega)⟩
    case h0 => exact ⟨rfl, hQ, hF, hQat, hD2, hp2, by simp [Value.ownBlock]; omega, KeepsFrom.refl _ _, Below.refl _ _⟩
    case assign =>
      intro l x W K hK
      gi_wp2
      exact hK
    case body =>
      rintro l pr x W ⟨Q', F', qv', hI⟩ _
      generalize hlt : letter x.val = lt
      have Hlt := Lib.hid (hlt.symm.trans (letter_eq x))
      clear hlt
      have hx4 := x.isLt
      have hD' := hI.ds
      have hsW := hI.keeps.size
      have hne := hI.ne
      have hq'len := hI.dq.size (by rw [Hbs.out]; exact hs60) (by rw [Hbt.out]; exact ht60)
      obtain ⟨g', cap', rfl⟩ := own_form hD'.hq hI.dq.ne
      have hg'l := (hD'.hq.lt g' rfl).2
      have c2 := hD'.h2.cell 0
      have c3 := hD'.h3.cell 0
      have c5 := hD'.h5.cell 0
      have c6 := hD'.h6.cell 0
      have f6 := hD'.h6.frozen 0
      have p0 := hI.pair.cell 0
      have p1 := hI.pair.cell 1
      simp only [List.getElem?_toArray, List.getElem?_cons_zero, List.getElem?_cons_succ] at c2 c3 c5 c6 p0 p1
      have hle1 := nx_le (bl s) x.val i (by rw [Hbs.out]; exact hbnd.1)
      have hle2 := nx_le (bl t) x.val j (by rw [Hbt.out]; exact hbnd.2)
      rw [Hbs.out] at hle1
      rw [Hbt.out] at hle2
      obtain ⟨A, hA⟩ : ∃ A, A = nx (bl s) x.val i + 1 := ⟨_, rfl⟩
      obtain ⟨B, hBB⟩ : ∃ B, B = nx (bl t) x.val j + 1 := ⟨_, rfl⟩
      have hA61 : A ≤ 61 := by omega
      have hB61 : B ≤ 61 := by omega
      have hkn := hI.df.known hI.dq (A, B) (by simp only; omega)
      have HA := Lib.hid hA
      have HBB := Lib.hid hBB
      clear hA hBB
      obtain ⟨v0, hv0⟩ : ∃ v0, ((getL F' (A, B)).map stepV).getD (stepV ((0, 0), ⟨#[]⟩)) = stepV v0 := by
        cases getL F' (A, B) with
        | none => exact ⟨_, rfl⟩
        | some v => exact ⟨v, rfl⟩
      have Hkn := Lib.hid hkn
      have Hv0 := Lib.hid hv0
      clear hkn hv0
      by_cases ha : nx (bl s) x.val i < s.size
      · by_cases hb : nx (bl t) x.val j < t.size
        · by_cases hin : (A, B) ∈ Q'.map (·.1)
          · have Hin := Lib.hid hin
            clear hin
            have hcall := after_at bx s i x.val i x.val A true W hD'.hx hs60 rfl rfl hbnd.1 hx4 (by simpa using ha) HA.out
            gi_wp2_with fail
            refine round_call hcall ?_
            rintro e w' ⟨rfl, nq, rfl⟩
            have hyW := hD'.hy.grown (grown_drewN W nq) (by simp)
            have hcall := after_at by' t j x.val j x.val B true (W.drewN nq) hyW ht60 rfl rfl hbnd.2 hx4 (by simpa using hb) HBB.out
            gi_wp2_with fail
            refine round_call hcall ?_
            rintro e w' ⟨rfl, nq2, rfl⟩
            have hD1 := (hD'.grown hbx hby (grown_drewN W nq) (by simp)).grown hbx hby (grown_drewN _ nq2) (by simp)
            have hp1 := (hI.pair.drewN nq).drewN nq2
            have hk1 := (keepsO_drewN W nq).trans (keepsO_drewN _ nq2)
            have hB1 := below_drewN (below_drewN hI.below nq) nq2
            have hs1 : W.heap.size ≤ ((W.drewN nq).drewN nq2).heap.size := Nat.le_refl _
            generalize (W.drewN nq).drewN nq2 = W1 at hD1 hp1 hk1 hB1 hs1 ⊢
            clear hcall hyW c2 c3 c5 c6 p0 p1 f6
            have c5 := (hD1.h5.alloc (.cells #[.int .i64 A, .int .i64 B] 102)).cell 0
            simp only [List.getElem?_toArray, List.getElem?_cons_zero] at c5
            gi_wp2_with (first
              | (gi_at_lookup
                 have hD3 := hD1.grown hbx hby (World.grownBy_alloc W1 (.cells #[.int .i64 A, .int .i64 B] 102) none) (by simp)
                 have hp3 := hp1.alloc (.cells #[.int .i64 A, .int .i64 B] 102)
                 have hk3 := hk1.trans (KeepsOthers.alloc W1 (.cells #[.int .i64 A, .int .i64 B] 102))
                 have hB3 := hB1.alloc (by omega) (.cells #[.int .i64 A, .int .i64 B] 102)
                 have hn3 := Blk.new W1 #[.int .i64 A, .int .i64 B] 102
                 have hs3 : W1.heap.size < (W1.alloc (.cells #[.int .i64 A, .int .i64 B] 102)).heap.size := by simp
                 obtain ⟨nb, hnb⟩ : ∃ nb, nb = W1.heap.size := ⟨_, rfl⟩
                 rw [← hnb] at hn3 hs3 ⊢
                 generalize W1.alloc (.cells #[.int .i64 A, .int .i64 B] 102) = W3 at hD3 hp3 hk3 hB3 hn3 hs3 ⊢
                 have hnb2 : W.heap.size ≤ nb := by omega
                 clear hnb c5
                 refine wpListIn_look rfl (.tmp 54) (.tmp 55) 100 true rfl kfPair hD3.hm Try.underlying100 (zero105 _) (A, B) ⟨by simp only; omega, by simp only; omega⟩ rfl rfl ?_
                 rw [if_pos rfl, Hv0.out, Hkn.out, decide_eq_true Hin.out]
                 simp only [stepV]
                 obtain ⟨⟨v1, v2⟩, v3⟩ := v0
                 have hD4 := hD3.grown hbx hby (World.grownBy_alloc W3 (.cells #[.int .i64 v1, .int .i64 v2, .string v3] 105) none) (by simp)
                 have hp4 := hp3.alloc (.cells #[.int .i64 v1, .int .i64 v2, .string v3] 105)
                 have hk4 := hk3.trans (KeepsOthers.alloc W3 (.cells #[.int .i64 v1, .int .i64 v2, .string v3] 105))
                 have hB4 := hB3.alloc (by omega) (.cells #[.int .i64 v1, .int .i64 v2, .string v3] 105)
                 have hn4 := hn3.alloc (.cells #[.int .i64 v1, .int .i64 v2, .string v3] 105)))
            refine ⟨hk4.from _, trivial, Q', F', _, ?_, hI.dq, hI.df, hI.here, hD4, hp4, hne, hI.keeps.trans (hk4.from _), hB4⟩
            rw [List.map_append, List.map_cons, List.map_nil, drun_snoc _ hI.run]
            unfold dstep
            rw [if_neg (by rw [Hbs.out, Hbt.out]; simp [ha, hb]), if_neg (fun h => h.2 (by rw [← HA.out, ← HBB.out]; exact Hin.out))]
          · have Hin := Lib.hid hin
            clear hin
            have hcall := after_at bx s i x.val i x.val A true W hD'.hx hs60 rfl rfl hbnd.1 hx4 (by simpa using ha) HA.out
            gi_wp2_with fail
            refine round_call hcall ?_
            rintro e w' ⟨rfl, nq, rfl⟩
            have hyW := hD'.hy.grown (grown_drewN W nq) (by simp)
            have hcall := after_at by' t j x.val j x.val B true (W.drewN nq) hyW ht60 rfl rfl hbnd.2 hx4 (by simpa using hb) HBB.out
            gi_wp2_with fail
            refine round_call hcall ?_
            rintro e w' ⟨rfl, nq2, rfl⟩
            have hD1 := (hD'.grown hbx hby (grown_drewN W nq) (by simp)).grown hbx hby (grown_drewN _ nq2) (by simp)
            have hp1 := (hI.pair.drewN nq).drewN nq2
            have hk1 := (keepsO_drewN W nq).trans (keepsO_drewN _ nq2)
            have hB1 := below_drewN (below_drewN hI.below nq) nq2
            have hs1 : W.heap.size ≤ ((W.drewN nq).drewN nq2).heap.size := Nat.le_refl _
            generalize (W.drewN nq).drewN nq2 = W1 at hD1 hp1 hk1 hB1 hs1 ⊢
            clear hcall hyW c2 c3 c5 c6 p0 p1 f6
            have c5 := (hD1.h5.alloc (.cells #[.int .i64 A, .int .i64 B] 102)).cell 0
            simp only [List.getElem?_toArray, List.getElem?_cons_zero] at c5
            gi_wp2_with (first
              | (gi_at_lookup
                 have hD3 := hD1.grown hbx hby (World.grownBy_alloc W1 (.cells #[.int .i64 A, .int .i64 B] 102) none) (by simp)
                 have hp3 := hp1.alloc (.cells #[.int .i64 A, .int .i64 B] 102)
                 have hk3 := hk1.trans (KeepsOthers.alloc W1 (.cells #[.int .i64 A, .int .i64 B] 102))
                 have hB3 := hB1.alloc (by omega) (.cells #[.int .i64 A, .int .i64 B] 102)
                 have hn3 := Blk.new W1 #[.int .i64 A, .int .i64 B] 102
                 have hs3 : W1.heap.size < (W1.alloc (.cells #[.int .i64 A, .int .i64 B] 102)).heap.size := by simp
                 obtain ⟨nb, hnb⟩ : ∃ nb, nb = W1.heap.size := ⟨_, rfl⟩
                 rw [← hnb] at hn3 hs3 ⊢
                 generalize W1.alloc (.cells #[.int .i64 A, .int .i64 B] 102) = W3 at hD3 hp3 hk3 hB3 hn3 hs3 ⊢
                 have hnb2 : W.heap.size ≤ nb := by omega
                 clear hnb c5
                 refine wpListIn_look rfl (.tmp 54) (.tmp 55) 100 true rfl kfPair hD3.hm Try.underlying100 (zero105 _) (A, B) ⟨by simp only; omega, by simp only; omega⟩ rfl rfl ?_
                 rw [if_pos rfl, Hv0.out, Hkn.out, decide_eq_false Hin.out]
                 simp only [stepV]
                 obtain ⟨⟨v1, v2⟩, v3⟩ := v0
                 have hD4 := hD3.grown hbx hby (World.grownBy_alloc W3 (.cells #[.int .i64 v1, .int .i64 v2, .string v3] 105) none) (by simp)
                 have hp4 := hp3.alloc (.cells #[.int .i64 v1, .int .i64 v2, .string v3] 105)
                 have hk4 := hk3.trans (KeepsOthers.alloc W3 (.cells #[.int .i64 v1, .int .i64 v2, .string v3] 105))
                 have hB4 := hB3.alloc (by omega) (.cells #[.int .i64 v1, .int .i64 v2, .string v3] 105)
                 have hn4 := hn3.alloc (.cells #[.int .i64 v1, .int .i64 v2, .string v3] 105)
                 have c5 := hD4.h5.cell 0
                 have d0 := hn4.cell 0
                 have d1 := hn4.cell 1
                 have p0 := hp4.cell 0
                 have p1 := hp4.cell 1
                 simp only [List.getElem?_toArray, List.getElem?_cons_zero, List.getElem?_cons_succ] at c5 d0 d1 p0 p1)
              | (gi_at_mapUpdate
                 refine wpListIn_mapset rfl (.tmp 83) (.tmp 84) (.tmp 87) 100 rfl kfPair hD4.hm Try.underlying100 (A, B) ⟨by simp only; omega, by simp only; omega⟩ ((i, j), lt) rfl rfl rfl ?_
                 intro es clock hm5
                 have hg5 := grown_setBlock (W3.alloc (.cells #[.int .i64 v1, .int .i64 v2, .string v3] 105)) (n + 3) (.map es clock)
                 have hD5 := hD4.putMap hbx hby hm5
                 have hp5 := hp4.grown hg5 (by simp; omega)
                 have hn5 := hn4.grown hg5 (by simp; omega)
                 have hk5 := (hk4.from (n + 7)).trans (KeepsFrom.of_grownBy hg5 (by intro j e; cases e; omega))
                 have hB5 := hB4.grown hg5 (by simp; omega) (by intro k e; cases e; omega)
                 generalize setBlock (W3.alloc (.cells #[.int .i64 v1, .int .i64 v2, .string v3] 105)) (n + 3) (.map es clock) = W5 at hm5 hg5 hD5 hp5 hn5 hk5 hB5 ⊢
                 clear c5 d0 d1 p0 p1 hm5 hg5
                 have c6 := hD5.h6.cell 0
                 have d0 := hn5.cell 0
                 have d1 := hn5.cell 1
                 simp only [List.getElem?_toArray, List.getElem?_cons_zero, List.getElem?_cons_succ] at c6 d0 d1)
              | (gi_at_builtin
                 have hD6 := hD5.grown hbx hby (World.grownBy_alloc W5 (.cells #[.int .i64 A, .int .i64 B] 102) none) (by simp)
                 have hp6 := hp5.alloc (.cells #[.int .i64 A, .int .i64 B] 102)
                 have hk6 := hk5.trans ((KeepsOthers.alloc W5 (.cells #[.int .i64 A, .int .i64 B] 102)).from _)
                 have hs5 := hp5.lt
                 have hB6 := hB5.alloc (by omega) (.cells #[.int .i64 A, .int .i64 B] 102)
                 have hl6 := Blk.new W5 #[.int .i64 A, .int .i64 B] 102
                 obtain ⟨i0, hi0, hz0, hsz0', hby0⟩ := info_parts info102
                 refine wpListIn_append_own _ rfl (.tmp 88) (.tmp 90) 103 rfl (n + 5) 102 i0 (.agg #[.int .i64 0, .int .i64 0]) 2 16 Try.underlying103 hi0 hz0 hsz0' hby0 rfl (by omega) (.slice (some ⟨g', 0, none⟩) Q'.length cap') Q'.length _ rfl hD6.hq ⟨W5.heap.size, 0, none⟩ 1 1 [.int .i64 A, .int .i64 B] rfl rfl
                   (by
                     intro k u hu
                     match k, hu with
                     | 0, hu => cases hu; exact hl6.cell 0
                     | 1, hu => cases hu; exact hl6.cell 1)
                   (by simp [Value.oneCell']) (by unfold maxLen; omega) (by omega) (by simp; omega) ?_
                 intro v' w' ho hg hnil
                 have h66 := hD6.h6.grown hg (fun e => own_ne_type hD6.hq hD6.h6 (by omega) e.symm)
                 have f6 := h66.frozen 0
                 have c6 := h66.cell 0
                 simp only [List.getElem?_toArray, List.getElem?_cons_zero] at c6
                 obtain ⟨g2, cap2, rfl⟩ := own_form ho (by omega)
                 clear hnil))
            have hp7 := hp6.grown hg (fun e => hne e.symm)
            have hne7 := own_ne_small ho hp7 (by have := hI.dq.ne; simp; omega)
            have hk7 := hk6.trans (((KeepsOthers.of_grownBy hg (fun j o e ho' => by
              obtain ⟨c, fz, h1⟩ := own_kind hD6.hq j e
              rw [h1] at ho'; cases ho'; rfl)).trans (KeepsOthers.setCell _ ⟨n + 6, 0, none⟩ (.slice (some ⟨g2, 0, none⟩) (Q'.length + 1) cap2))).from _)
            have hB7 := (hB6.grown hg (by simp; omega) (fun k e => by have := (hD6.hq.lt k e).1; omega)).setCell (p := ⟨n + 6, 0, none⟩) (by simp) (.slice (some ⟨g2, 0, none⟩) (Q'.length + 1) cap2)
            have hn0 : (A, B) ∉ Q'.map (·.1) := Hin.out
            rw [HA.out, HBB.out] at hn0
            have hdq := hI.dq.push hI.here (by rw [Hbs.out]; exact ha) (by rw [Hbt.out]; exact hb) hn0
            have hdf := hI.df.push (q := (A, B)) (c := x) hI.here
            have hput : putL F' (A, B) ((i, j), lt) = F' ++ [((A, B), ((i, j), str [97 + x.val]))] := by
              unfold putL
              rw [Hkn.out, decide_eq_false Hin.out, Hlt.out]; rfl
            have hD7 := hD6.push hbx hby hg ((A, B), wd ++ [97 + x.val]) ho
            rw [hput] at hD7
            rw [← HA.out, ← HBB.out] at hdq
            refine ⟨KeepsFrom.mono_ hk7 (by omega), trivial, _, _, _, ?_, hdq, hdf, ?_, hD7, hp7.other _ (by simp; omega) _, hne7, hI.keeps.trans hk7, hB7⟩
            · rw [List.map_append, List.map_cons, List.map_nil, drun_snoc _ hI.run]
              unfold dstep
              rw [if_neg (by rw [Hbs.out, Hbt.out]; simp [ha, hb]), if_pos ⟨by rw [Hbs.out]; exact ha, hn0⟩, HA.out, HBB.out]
            · rw [List.getElem?_append_left (List.getElem?_eq_some_iff.1 hI.here).1]; exact hI.here
        ·
          have hcall := after_at bx s i x.val i x.val A true W hD'.hx hs60 rfl rfl hbnd.1 hx4 (by simpa using ha) HA.out
          gi_wp2_with fail
          refine round_call hcall ?_
          rintro e w' ⟨rfl, nq, rfl⟩
          have hyW := hD'.hy.grown (grown_drewN W nq) (by simp)
          have hcall := after_at by' t j x.val j x.val B false (W.drewN nq) hyW ht60 rfl rfl hbnd.2 hx4 (by simpa using hb) HBB.out
          gi_wp2_with fail
          refine round_call hcall ?_
          rintro e w' ⟨rfl, nq2, rfl⟩
          have hD1 := (hD'.grown hbx hby (grown_drewN W nq) (by simp)).grown hbx hby (grown_drewN _ nq2) (by simp)
          have hp1 := (hI.pair.drewN nq).drewN nq2
          have hk1 := (keepsO_drewN W nq).trans (keepsO_drewN _ nq2)
          have hB1 := below_drewN (below_drewN hI.below nq) nq2
          have hs1 : W.heap.size ≤ ((W.drewN nq).drewN nq2).heap.size := Nat.le_refl _
          generalize (W.drewN nq).drewN nq2 = W1 at hD1 hp1 hk1 hB1 hs1 ⊢
          clear hcall hyW c2 c3 c5 c6 p0 p1 f6
          have c5 := (hD1.h5.alloc (.cells #[.int .i64 A, .int .i64 B] 102)).cell 0
          simp only [List.getElem?_toArray, List.getElem?_cons_zero] at c5
          gi_wp2_with (first
            | (gi_at_lookup
               have hD3 := hD1.grown hbx hby (World.grownBy_alloc W1 (.cells #[.int .i64 A, .int .i64 B] 102) none) (by simp)
               have hp3 := hp1.alloc (.cells #[.int .i64 A, .int .i64 B] 102)
               have hk3 := hk1.trans (KeepsOthers.alloc W1 (.cells #[.int .i64 A, .int .i64 B] 102))
               have hB3 := hB1.alloc (by omega) (.cells #[.int .i64 A, .int .i64 B] 102)
               have hn3 := Blk.new W1 #[.int .i64 A, .int .i64 B] 102
               have hs3 : W1.heap.size < (W1.alloc (.cells #[.int .i64 A, .int .i64 B] 102)).heap.size := by simp
               obtain ⟨nb, hnb⟩ : ∃ nb, nb = W1.heap.size := ⟨_, rfl⟩
               rw [← hnb] at hn3 hs3 ⊢
               generalize W1.alloc (.cells #[.int .i64 A, .int .i64 B] 102) = W3 at hD3 hp3 hk3 hB3 hn3 hs3 ⊢
               have hnb2 : W.heap.size ≤ nb := by omega
               clear hnb c5
               refine wpListIn_look rfl (.tmp 54) (.tmp 55) 100 true rfl kfPair hD3.hm Try.underlying100 (zero105 _) (A, B) ⟨by simp only; omega, by simp only; omega⟩ rfl rfl ?_
               rw [if_pos rfl, Hv0.out, Hkn.out]
               simp only [stepV]
               obtain ⟨⟨v1, v2⟩, v3⟩ := v0
               have hD4 := hD3.grown hbx hby (World.grownBy_alloc W3 (.cells #[.int .i64 v1, .int .i64 v2, .string v3] 105) none) (by simp)
               have hp4 := hp3.alloc (.cells #[.int .i64 v1, .int .i64 v2, .string v3] 105)
               have hk4 := hk3.trans (KeepsOthers.alloc W3 (.cells #[.int .i64 v1, .int .i64 v2, .string v3] 105))
               have hB4 := hB3.alloc (by omega) (.cells #[.int .i64 v1, .int .i64 v2, .string v3] 105)
               have hn4 := hn3.alloc (.cells #[.int .i64 v1, .int .i64 v2, .string v3] 105)
               have c5 := hD4.h5.cell 0
               have d0 := hn4.cell 0
               have d1 := hn4.cell 1
               have p0 := hp4.cell 0
               have p1 := hp4.cell 1
               simp only [List.getElem?_toArray, List.getElem?_cons_zero, List.getElem?_cons_succ] at c5 d0 d1 p0 p1))
          generalize decide ((A, B) ∈ Q'.map (·.1)) = kb
          gi_loopw [10] (fun v wr' => ∃ (q : Pr) (k : Nat) (wdq rest : List Nat), v = .string (str rest) ∧ Q'[k]? = some (q, wdq) ∧ RowKit.Hid (wdq ++ rest = wd ++ [97 + x.val]) ∧ rest.length ≤ 61 ∧ Blk wr' wr.heap.size #[.int .i64 q.1, .int .i64 q.2] 102 ∧
            DS n bx by' s t wr' Q' F' (.slice (some ⟨g', 0, none⟩) Q'.length cap') ∧ KeepsFrom (n + 7) W wr' ∧ Below n W2 wr') (fun v _ => 100 - strLen v)
          case atStart => exact ⟨(i, j), at', wd, [97 + x.val], by rw [Hlt.out], hI.here, Lib.hid rfl, by simp, hp4, hD4, hk4.from _, hB4⟩
          case round =>
            obtain ⟨⟨q1, q2⟩, k, wdq, rest, rfl, hQk, Hrest, hrl, hpq, hDq, hkq, hBq⟩ := hrel
            clear c5 d0 d1 p0 p1
            have c5 := hDq.h5.cell 0
            have p0 := hpq.cell 0
            have p1 := hpq.cell 1
            simp only [List.getElem?_toArray, List.getElem?_cons_zero, List.getElem?_cons_succ] at c5 p0 p1
            cases k with
            | zero =>
              have h0 := hI.dq.head
              rw [hQk] at h0
              obtain ⟨h1, rfl⟩ := Prod.mk.inj (Option.some.inj h0)
              obtain ⟨rfl, rfl⟩ := Prod.mk.inj h1
              clear h0 h1
              have f4 := hDq.h4.frozen 0
              have c4 := hDq.h4.cell 0
              simp only [List.getElem?_toArray, List.getElem?_cons_zero] at c4
              gi_wp2
              have hrt := Hrest.out
              rw [List.nil_append] at hrt
              refine ⟨KeepsFrom.mono_ (hkq.trans ((KeepsOthers.setCell _ ⟨n + 2, 0, none⟩ (.string (str rest))).from _)) (by omega), rfl, rest, ?_, hDq.h4.set1 _, hI.keeps.trans (hkq.trans ((KeepsOthers.setCell _ ⟨n + 2, 0, none⟩ (.string (str rest))).from _)), hBq.setCell (p := ⟨n + 2, 0, none⟩) (by simp) _⟩
              rw [List.map_append, List.map_cons, List.map_nil, drun_snoc _ hI.run, hrt]
              unfold dstep
              rw [if_pos (by rw [Hbs.out, Hbt.out]; simp [ha, hb])]
            | succ m =>
              obtain ⟨pp, jj, wd', c, hF, hjj, hQj, rfl⟩ := hI.df.from_ m _ _ hQk
              have hgl := getL_at (by rw [hI.df.tail]; exact List.Nodup.sublist (List.tail_sublist _) hI.dq.apart) hF
              have hps := hI.dq.pos m _ _ hQk
              have hlq := hI.dq.len _ (List.mem_of_getElem? hQk)
              have hbq := hI.dq.inX _ (List.mem_of_getElem? hQk)
              rw [Hbs.out, Hbt.out] at hbq
              have Hgl := Lib.hid hgl
              have hrt := congrArg List.length Hrest.out
              have hlw := hI.dq.len _ (List.mem_of_getElem? hI.here)
              simp only [List.length_append, List.length_cons, List.length_nil] at hps hlq hbq hrt hlw
              have hrl2 : rest.length + 1 ≤ 61 := by omega
              clear hgl hrt
              have Hrest2 : RowKit.Hid (wd' ++ (97 + c.val) :: rest = wd ++ [97 + x.val]) := Lib.hid (by have := Hrest.out; simpa using this)
              have f0 := hpq.frozen 0
              have f1 := hpq.frozen 1
              have hsz1 : (str [97 + c.val]).size + (str rest).size ≤ 9223372036854775807 := by rw [str_size, str_size]; simp; omega
              obtain ⟨pp1, pp2⟩ := pp
              have hf1 := fld1
              have hf0 := fld0
              gi_wp2_with (gi_at_lookup
                           refine wpListIn_look rfl _ _ 100 false rfl kfPair hDq.hm Try.underlying100 (zero105 _) (q1, q2) ⟨by simp only; omega, by simp only; omega⟩ rfl rfl ?_
                           rw [if_neg (by simp), Hgl.out]
                           simp only [Option.map_some, Option.getD_some, stepV])
              refine ⟨⟨(pp1, pp2), jj, wd', (97 + c.val) :: rest, by rw [str_append]; rfl, hQj, Hrest2, by simp; omega, ((hpq.set 0 _).set 1 _).as (by simp), ?_, ?_, ?_⟩, ?_⟩
              · exact (hDq.grown hbx hby (grown_setCell wr _ _) (fun r e => by cases e; exact ⟨by simp; omega, hne⟩)).grown hbx hby (grown_setCell _ _ _) (fun r e => by cases e; exact ⟨by simp; omega, hne⟩)
              · exact hkq.trans (((KeepsOthers.setCell _ _ _).trans (KeepsOthers.setCell _ _ _)).from _)
              · exact (hBq.setCell (by simp; omega) _).setCell (by simp; omega) _
              · rw [str_append]
                show 100 - (str _).size < 100 - (str _).size
                rw [str_size, str_size]; simp; omega
      · by_cases hb : nx (bl t) x.val j < t.size
        ·
          have hcall := after_at bx s i x.val i x.val A false W hD'.hx hs60 rfl rfl hbnd.1 hx4 (by simpa using ha) HA.out
          gi_wp2_with fail
          refine round_call hcall ?_
          rintro e w' ⟨rfl, nq, rfl⟩
          have hyW := hD'.hy.grown (grown_drewN W nq) (by simp)
          have hcall := after_at by' t j x.val j x.val B true (W.drewN nq) hyW ht60 rfl rfl hbnd.2 hx4 (by simpa using hb) HBB.out
          gi_wp2_with fail
          refine round_call hcall ?_
          rintro e w' ⟨rfl, nq2, rfl⟩
          have hD1 := (hD'.grown hbx hby (grown_drewN W nq) (by simp)).grown hbx hby (grown_drewN _ nq2) (by simp)
          have hp1 := (hI.pair.drewN nq).drewN nq2
          have hk1 := (keepsO_drewN W nq).trans (keepsO_drewN _ nq2)
          have hB1 := below_drewN (below_drewN hI.below nq) nq2
          have hs1 : W.heap.size ≤ ((W.drewN nq).drewN nq2).heap.size := Nat.le_refl _
          generalize (W.drewN nq).drewN nq2 = W1 at hD1 hp1 hk1 hB1 hs1 ⊢
          clear hcall hyW c2 c3 c5 c6 p0 p1 f6
          have c5 := (hD1.h5.alloc (.cells #[.int .i64 A, .int .i64 B] 102)).cell 0
          simp only [List.getElem?_toArray, List.getElem?_cons_zero] at c5
          gi_wp2_with (first
            | (gi_at_lookup
               have hD3 := hD1.grown hbx hby (World.grownBy_alloc W1 (.cells #[.int .i64 A, .int .i64 B] 102) none) (by simp)
               have hp3 := hp1.alloc (.cells #[.int .i64 A, .int .i64 B] 102)
               have hk3 := hk1.trans (KeepsOthers.alloc W1 (.cells #[.int .i64 A, .int .i64 B] 102))
               have hB3 := hB1.alloc (by omega) (.cells #[.int .i64 A, .int .i64 B] 102)
               have hn3 := Blk.new W1 #[.int .i64 A, .int .i64 B] 102
               have hs3 : W1.heap.size < (W1.alloc (.cells #[.int .i64 A, .int .i64 B] 102)).heap.size := by simp
               obtain ⟨nb, hnb⟩ : ∃ nb, nb = W1.heap.size := ⟨_, rfl⟩
               rw [← hnb] at hn3 hs3 ⊢
               generalize W1.alloc (.cells #[.int .i64 A, .int .i64 B] 102) = W3 at hD3 hp3 hk3 hB3 hn3 hs3 ⊢
               have hnb2 : W.heap.size ≤ nb := by omega
               clear hnb c5
               refine wpListIn_look rfl (.tmp 54) (.tmp 55) 100 true rfl kfPair hD3.hm Try.underlying100 (zero105 _) (A, B) ⟨by simp only; omega, by simp only; omega⟩ rfl rfl ?_
               rw [if_pos rfl, Hv0.out, Hkn.out]
               simp only [stepV]
               obtain ⟨⟨v1, v2⟩, v3⟩ := v0
               have hD4 := hD3.grown hbx hby (World.grownBy_alloc W3 (.cells #[.int .i64 v1, .int .i64 v2, .string v3] 105) none) (by simp)
               have hp4 := hp3.alloc (.cells #[.int .i64 v1, .int .i64 v2, .string v3] 105)
               have hk4 := hk3.trans (KeepsOthers.alloc W3 (.cells #[.int .i64 v1, .int .i64 v2, .string v3] 105))
               have hB4 := hB3.alloc (by omega) (.cells #[.int .i64 v1, .int .i64 v2, .string v3] 105)
               have hn4 := hn3.alloc (.cells #[.int .i64 v1, .int .i64 v2, .string v3] 105)
               have c5 := hD4.h5.cell 0
               have d0 := hn4.cell 0
               have d1 := hn4.cell 1
               have p0 := hp4.cell 0
               have p1 := hp4.cell 1
               simp only [List.getElem?_toArray, List.getElem?_cons_zero, List.getElem?_cons_succ] at c5 d0 d1 p0 p1))
          generalize decide ((A, B) ∈ Q'.map (·.1)) = kb
          gi_loopw [10] (fun v wr' => ∃ (q : Pr) (k : Nat) (wdq rest : List Nat), v = .string (str rest) ∧ Q'[k]? = some (q, wdq) ∧ RowKit.Hid (wdq ++ rest = wd ++ [97 + x.val]) ∧ rest.length ≤ 61 ∧ Blk wr' wr.heap.size #[.int .i64 q.1, .int .i64 q.2] 102 ∧
            DS n bx by' s t wr' Q' F' (.slice (some ⟨g', 0, none⟩) Q'.length cap') ∧ KeepsFrom (n + 7) W wr' ∧ Below n W2 wr') (fun v _ => 100 - strLen v)
          case atStart => exact ⟨(i, j), at', wd, [97 + x.val], by rw [Hlt.out], hI.here, Lib.hid rfl, by simp, hp4, hD4, hk4.from _, hB4⟩
          case round =>
            obtain ⟨⟨q1, q2⟩, k, wdq, rest, rfl, hQk, Hrest, hrl, hpq, hDq, hkq, hBq⟩ := hrel
            clear c5 d0 d1 p0 p1
            have c5 := hDq.h5.cell 0
            have p0 := hpq.cell 0
            have p1 := hpq.cell 1
            simp only [List.getElem?_toArray, List.getElem?_cons_zero, List.getElem?_cons_succ] at c5 p0 p1
            cases k with
            | zero =>
              have h0 := hI.dq.head
              rw [hQk] at h0
              obtain ⟨h1, rfl⟩ := Prod.mk.inj (Option.some.inj h0)
              obtain ⟨rfl, rfl⟩ := Prod.mk.inj h1
              clear h0 h1
              have f4 := hDq.h4.frozen 0
              have c4 := hDq.h4.cell 0
              simp only [List.getElem?_toArray, List.getElem?_cons_zero] at c4
              gi_wp2
              have hrt := Hrest.out
              rw [List.nil_append] at hrt
              refine ⟨KeepsFrom.mono_ (hkq.trans ((KeepsOthers.setCell _ ⟨n + 2, 0, none⟩ (.string (str rest))).from _)) (by omega), rfl, rest, ?_, hDq.h4.set1 _, hI.keeps.trans (hkq.trans ((KeepsOthers.setCell _ ⟨n + 2, 0, none⟩ (.string (str rest))).from _)), hBq.setCell (p := ⟨n + 2, 0, none⟩) (by simp) _⟩
              rw [List.map_append, List.map_cons, List.map_nil, drun_snoc _ hI.run, hrt]
              unfold dstep
              rw [if_pos (by rw [Hbs.out, Hbt.out]; simp [ha, hb])]
            | succ m =>
              obtain ⟨pp, jj, wd', c, hF, hjj, hQj, rfl⟩ := hI.df.from_ m _ _ hQk
              have hgl := getL_at (by rw [hI.df.tail]; exact List.Nodup.sublist (List.tail_sublist _) hI.dq.apart) hF
              have hps := hI.dq.pos m _ _ hQk
              have hlq := hI.dq.len _ (List.mem_of_getElem? hQk)
              have hbq := hI.dq.inX _ (List.mem_of_getElem? hQk)
              rw [Hbs.out, Hbt.out] at hbq
              have Hgl := Lib.hid hgl
              have hrt := congrArg List.length Hrest.out
              have hlw := hI.dq.len _ (List.mem_of_getElem? hI.here)
              simp only [List.length_append, List.length_cons, List.length_nil] at hps hlq hbq hrt hlw
              have hrl2 : rest.length + 1 ≤ 61 := by omega
              clear hgl hrt
              have Hrest2 : RowKit.Hid (wd' ++ (97 + c.val) :: rest = wd ++ [97 + x.val]) := Lib.hid (by have := Hrest.out; simpa using this)
              have f0 := hpq.frozen 0
              have f1 := hpq.frozen 1
              have hsz1 : (str [97 + c.val]).size + (str rest).size ≤ 9223372036854775807 := by rw [str_size, str_size]; simp; omega
              obtain ⟨pp1, pp2⟩ := pp
              have hf1 := fld1
              have hf0 := fld0
              gi_wp2_with (gi_at_lookup
                           refine wpListIn_look rfl _ _ 100 false rfl kfPair hDq.hm Try.underlying100 (zero105 _) (q1, q2) ⟨by simp only; omega, by simp only; omega⟩ rfl rfl ?_
                           rw [if_neg (by simp), Hgl.out]
                           simp only [Option.map_some, Option.getD_some, stepV])
              refine ⟨⟨(pp1, pp2), jj, wd', (97 + c.val) :: rest, by rw [str_append]; rfl, hQj, Hrest2, by simp; omega, ((hpq.set 0 _).set 1 _).as (by simp), ?_, ?_, ?_⟩, ?_⟩
              · exact (hDq.grown hbx hby (grown_setCell wr _ _) (fun r e => by cases e; exact ⟨by simp; omega, hne⟩)).grown hbx hby (grown_setCell _ _ _) (fun r e => by cases e; exact ⟨by simp; omega, hne⟩)
              · exact hkq.trans (((KeepsOthers.setCell _ _ _).trans (KeepsOthers.setCell _ _ _)).from _)
              · exact (hBq.setCell (by simp; omega) _).setCell (by simp; omega) _
              · rw [str_append]
                show 100 - (str _).size < 100 - (str _).size
                rw [str_size, str_size]; simp; omega
        ·
          have hcall := after_at bx s i x.val i x.val A false W hD'.hx hs60 rfl rfl hbnd.1 hx4 (by simpa using ha) HA.out
          gi_wp2_with fail
          refine round_call hcall ?_
          rintro e w' ⟨rfl, nq, rfl⟩
          have hyW := hD'.hy.grown (grown_drewN W nq) (by simp)
          have hcall := after_at by' t j x.val j x.val B false (W.drewN nq) hyW ht60 rfl rfl hbnd.2 hx4 (by simpa using hb) HBB.out
          gi_wp2_with fail
          refine round_call hcall ?_
          rintro e w' ⟨rfl, nq2, rfl⟩
          have hD1 := (hD'.grown hbx hby (grown_drewN W nq) (by simp)).grown hbx hby (grown_drewN _ nq2) (by simp)
          have hp1 := (hI.pair.drewN nq).drewN nq2
          have hk1 := (keepsO_drewN W nq).trans (keepsO_drewN _ nq2)
          have hB1 := below_drewN (below_drewN hI.below nq) nq2
          have hs1 : W.heap.size ≤ ((W.drewN nq).drewN nq2).heap.size := Nat.le_refl _
          generalize (W.drewN nq).drewN nq2 = W1 at hD1 hp1 hk1 hB1 hs1 ⊢
          clear hcall hyW c2 c3 c5 c6 p0 p1 f6
          have c5 := (hD1.h5.alloc (.cells #[.int .i64 A, .int .i64 B] 102)).cell 0
          simp only [List.getElem?_toArray, List.getElem?_cons_zero] at c5
          gi_wp2_with (first
            | (gi_at_lookup
               have hD3 := hD1.grown hbx hby (World.grownBy_alloc W1 (.cells #[.int .i64 A, .int .i64 B] 102) none) (by simp)
               have hp3 := hp1.alloc (.cells #[.int .i64 A, .int .i64 B] 102)
               have hk3 := hk1.trans (KeepsOthers.alloc W1 (.cells #[.int .i64 A, .int .i64 B] 102))
               have hB3 := hB1.alloc (by omega) (.cells #[.int .i64 A, .int .i64 B] 102)
               have hn3 := Blk.new W1 #[.int .i64 A, .int .i64 B] 102
               have hs3 : W1.heap.size < (W1.alloc (.cells #[.int .i64 A, .int .i64 B] 102)).heap.size := by simp
               obtain ⟨nb, hnb⟩ : ∃ nb, nb = W1.heap.size := ⟨_, rfl⟩
               rw [← hnb] at hn3 hs3 ⊢
               generalize W1.alloc (.cells #[.int .i64 A, .int .i64 B] 102) = W3 at hD3 hp3 hk3 hB3 hn3 hs3 ⊢
               have hnb2 : W.heap.size ≤ nb := by omega
               clear hnb c5
               refine wpListIn_look rfl (.tmp 54) (.tmp 55) 100 true rfl kfPair hD3.hm Try.underlying100 (zero105 _) (A, B) ⟨by simp only; omega, by simp only; omega⟩ rfl rfl ?_
               rw [if_pos rfl, Hv0.out, Hkn.out]
               simp only [stepV]
               obtain ⟨⟨v1, v2⟩, v3⟩ := v0
               have hD4 := hD3.grown hbx hby (World.grownBy_alloc W3 (.cells #[.int .i64 v1, .int .i64 v2, .string v3] 105) none) (by simp)
               have hp4 := hp3.alloc (.cells #[.int .i64 v1, .int .i64 v2, .string v3] 105)
               have hk4 := hk3.trans (KeepsOthers.alloc W3 (.cells #[.int .i64 v1, .int .i64 v2, .string v3] 105))
               have hB4 := hB3.alloc (by omega) (.cells #[.int .i64 v1, .int .i64 v2, .string v3] 105)
               have hn4 := hn3.alloc (.cells #[.int .i64 v1, .int .i64 v2, .string v3] 105)
               generalize decide ((A, B) ∈ Q'.map (·.1)) = kb))
          refine ⟨hk4.from _, trivial, Q', F', _, ?_, hI.dq, hI.df, hI.here, hD4, hp4, hne, hI.keeps.trans (hk4.from _), hB4⟩
          rw [List.map_append, List.map_cons, List.map_nil, drun_snoc _ hI.run]
          unfold dstep
          rw [if_neg (by rw [Hbs.out, Hbt.out]; simp [ha, hb]), if_neg (fun h => ha (by have := h.1; rw [Hbs.out] at this; exact this))]
    case done =>
      rintro D xs W hD3 rfl ⟨Q', F', qv', hI⟩ hK
      have hr := hI.run
      rw [show (List.finRange 4).map (·.val) = [0, 1, 2, 3] from by decide] at hr
      obtain ⟨f, rfl⟩ : ∃ g, f = g + 1 := ⟨f - 1, by omega⟩
      have hit : dbfs (bl s) (bl t) 3722 0 [((0, 0), [])] = dbfs (bl s) (bl t) f (at' + 1) Q' := by
        rw [Hit.out, dbfs, hQat]
        simp only [hr]
      have Hit2 := Lib.hid hit
      have hDlt : D < W.heap.size := (Array.getElem?_eq_some_iff.1 hK).1
      have hat2 := (List.getElem?_eq_some_iff.1 hI.here).1
      have hq'len := hI.dq.size (by rw [Hbs.out]; exact hs60) (by rw [Hbt.out]; exact ht60)
      clear hr hit
      gi_wp2
      go_wp2
      refine ⟨⟨_, _, _, _, _, _, _, _, _, _, _, _, _, at' + 1, f, D + 1, Q', F', qv', rfl, by omega, by omega, Hit2, hI.dq, hI.df, hI.ds, hB2.trans hI.below, ?_, hDlt⟩, ?_⟩
      · exact ⟨D, rfl, by omega, by omega, hK, (Marks.from_ hM2 hI.keeps).up (by omega)⟩
      · simp [intOf]; omega
    case stop =>
      rintro D c pr W hD3 ⟨rest, hrest⟩ ⟨rfl, fw, hfw, h4, hk, hb⟩ hK
      have hit : dbfs (bl s) (bl t) 3722 0 [((0, 0), [])] = fw := by
        obtain ⟨f, rfl⟩ : ∃ g, f = g + 1 := ⟨f - 1, by omega⟩
        rw [Hit.out, dbfs, hQat]
        simp only
        rw [show [0, 1, 2, 3] = (pr ++ rest).map (·.val) from by rw [hrest]; decide, List.map_append, drun_append, hfw]
      have Hit2 := Lib.hid hit
      clear hit
      gi_wp2
      refine leaves_marks2 (v := .string (str fw)) (_ :: ds) W (D + 1) ⟨D, rfl, by omega, by omega, hK, (Marks.from_ hM2 hk).up (by omega)⟩ (fun w' hb' => results_cell_string rfl _ _ (n + 2) _ rfl (h4.below hb' (by omega))) (fun w' hb' => ⟨?_, ?_⟩)
      · rw [Hit2.out]
      · rw [← Hn.out]; exact (hB2.trans hb).trans (hb'.mono (by omega))
  · have hrs : dbfs (bl s) (bl t) f at' Q = [] := by
      cases f with
      | zero => rfl
      | succ f => rw [dbfs, List.getElem?_eq_none (by omega)]
    have c4 := hD.h4.frozen 0
    have c44 := hD.h4.cell 0
    simp only [List.getElem?_toArray, List.getElem?_cons_zero] at c44
    go_wp2
    have h4' := hD.h4.set1 (.string ⟨#[]⟩)
    refine leaves_marks2 (v := .string ⟨#[]⟩) ds _ top (hM.set _ _) (fun w' hb => results_cell_string rfl _ _ (n + 2) _ rfl (h4'.below hb (by omega))) (fun w' hb => ⟨?_, ?_⟩)
    · rw [Hit.out, hrs]; rfl
    · rw [← Hn.out]; exact (hB.setCell (by simp) _).trans (hb.mono (by omega))
end Go.Proofs.Ytfjbodaakmapdaa
