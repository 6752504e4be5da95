/-
  The contract of the reference's Arches.
-/
import Derived.Test.YtfjbodaakmapdaaTc
namespace Go.Proofs.Ytfjbodaakmapdaa
open Go.RowKit Go.Shelf Th Kit Go.Proofs.YtfjbodaakmapdaaW.PrintWords

/-- How many of the first letters stand from a position on ahead of another one. -/
def cntS (l : List Nat) (a i : Nat) : Nat → Nat
  | 0 => 0
  | k + 1 => cntS l a i k + if nx l k a < i then 1 else 0
theorem cntS_le (l : List Nat) (a i : Nat) : ∀ k, cntS l a i k ≤ k
  | 0 => Nat.le_refl _
  | k + 1 => by
    have := cntS_le l a i k
    rw [cntS]; split <;> omega
theorem cntS_all (l : List Nat) (a i : Nat) : ∀ k, 1 ≤ k → (cntS l a i k = k ↔ tp l a k < i)
  | 1, _ => by
    rw [cntS, cntS, tp, tp]
    split <;> omega
  | k + 2, _ => by
    have h := cntS_all l a i (k + 1) (by omega)
    have := cntS_le l a i (k + 1)
    rw [cntS, tp]
    split <;> omega
theorem nx_seen (l : List Nat) (a i c : Nat) (hai : a ≤ i) (hi : i < l.length) : nx l c a < i + 1 ↔ nx l c a < i ∨ l[i] = 97 + c := by
  have key : ∀ d, i = a + d → (nx l c a < i + 1 ↔ nx l c a < i ∨ l[i] = 97 + c) := by
    intro d
    induction d generalizing a with
    | zero =>
      intro e
      have e : i = a := e
      subst e
      have hs := nx_step l c i hi
      have hg := nx_ge l c i
      by_cases h : l[i] = 97 + c
      · rw [if_pos h] at hs
        exact ⟨fun _ => .inr h, fun _ => by omega⟩
      · rw [if_neg h] at hs
        have hg2 := nx_ge l c (i + 1)
        exact ⟨fun h' => by omega, fun h' => by rcases h' with h' | h'; omega; exact absurd h' h⟩
    | succ d ih =>
      intro e
      have ha : a < l.length := by omega
      have hs := nx_step l c a ha
      by_cases h : l[a] = 97 + c
      · rw [if_pos h] at hs
        exact ⟨fun _ => .inl (by omega), fun _ => by omega⟩
      · rw [if_neg h] at hs
        rw [hs]
        exact ih (a + 1) (by omega) (by omega)
  exact key (i - a) (by omega)
theorem cntS_step (l : List Nat) (a i c0 : Nat) (hai : a ≤ i) (hi : i < l.length) (hc : l[i] = 97 + c0) : ∀ k, cntS l a (i + 1) k = cntS l a i k + if c0 < k ∧ ¬ nx l c0 a < i then 1 else 0
  | 0 => by rw [cntS, cntS, if_neg (by omega)]
  | k + 1 => by
    have h := cntS_step l a i c0 hai hi hc k
    have hs := nx_seen l a i k hai hi
    rw [hc] at hs
    rw [cntS, cntS, h]
    by_cases e : k = c0
    · subst e
      have hs' : nx l k a < i + 1 := hs.2 (.inr rfl)
      rw [if_pos hs', if_neg (by omega)]
      by_cases g : nx l k a < i
      · rw [if_pos g, if_neg (by omega)]
      · rw [if_neg g, if_pos (by omega)]
    · have hs' : nx l k a < i + 1 ↔ nx l k a < i := by rw [hs]; omega
      by_cases g : nx l k a < i
      · rw [if_pos g, if_pos (hs'.2 g)]
        split <;> split <;> omega
      · rw [if_neg g, if_neg (fun h => g (hs'.1 h))]
        split <;> split <;> omega
theorem cntS_zero (l : List Nat) (a : Nat) : ∀ k, cntS l a a k = 0
  | 0 => rfl
  | k + 1 => by rw [cntS, cntS_zero l a k, if_neg (by have := nx_ge l k a; omega)]

def Given.tickingref03_Arches.f (s : ByteArray) (k : Int) : Option (List Int) :=
  if archOk s k = true then some (zs (ar (bl s) k.toNat (s.size + 1) 0)) else none

theorem heap_setCells_ne {b g : Nat} (hg : g ≠ b) : ∀ (vs : List Value) (w : World) (o : Nat), (w.setCells b o vs).heap[g]? = w.heap[g]?
  | [], _, _ => rfl
  | v :: r, w, o => (heap_setCells_ne hg r (w.setCell ⟨b, o, none⟩ v) (o + 1)).trans (Below.heap_setCell w _ v g hg)
theorem wpList_store_blk {P : Program} {ops : Array Oper} {rest : List Oper} {o : Oper} {a : Act} {w : World} {Q : Exit → Act → World → Prop} (hgd : o.guard = none) (ty : TypeId) (x y : Operand) (ho : o.op = .store ty x y)
    (b : Nat) (z : Array Value) (e : TypeId) (cells : Array Value) (hb : Blk w b z e) (hx : a.eval x = .pointer (some ⟨b, 0, none⟩)) (hy : a.eval y = .agg cells)
    (hz : z.size = cells.size) (hi : (P.info? ty).map (·.size) = some cells.size) (h1 : OneC cells)
    (h : ∀ w' : World, (∀ B w0, B ≤ b → Below B w0 w → Below B w0 w') → (∀ g, g ≠ b → w'.heap[g]? = w.heap[g]?) → Blk w' b cells e → wpList P ops Q rest (a.put o.dst undef) w') : wpList P ops Q (o :: rest) a w := by
  refine wpList_store_mid hgd ty x y ho b 0 cells hx hy (hb.there (by omega)) hi h1 ?_
  have hb2 := hb.puts cells.toList 0
  rw [put_all _ _ hz] at hb2
  exact h _ (fun B w0 hB hw => below_setCells _ _ hB hw) (fun g hg => heap_setCells_ne hg _ _ _) hb2
theorem R_keep {w w' : World} {base : Nat} {v : Value} {xs : List Int} (h : Kd.R (Kd.int .i64) 3 w base (fun _ => True) v xs) (hk : ∀ g, base ≤ g → w'.heap[g]? = w.heap[g]?) : Kd.R (Kd.int .i64) 3 w' base (fun _ => True) v xs := by
  refine Kd.R_of_own ?_ (fun _ _ => trivial)
  obtain ⟨h1, h2⟩ := Kd.own_of_R h
  refine ⟨h1, ?_⟩
  rcases h2 with h2 | ⟨g, cap, cur, e1, e2, e3, e4⟩
  · exact .inl h2
  · exact .inr ⟨g, cap, cur, e1, e2, (hk g e2).trans e3, e4⟩

/-- The array of the letters that have been seen. -/
structure SB (l : List Nat) (a i : Nat) (cs : Array Value) : Prop where
  size : cs.size = 4
  one : OneC cs
  row : ∀ c, c < 4 → cs[c]? = some (.bool (decide (nx l c a < i)))

def ROnePost (r : List Int) (w : World) (e : Ending) (w' : World) : Prop := ∃ v0_ : Value, e = .returned v0_ ∧ Kd.R (Kd.int .i64) 3 w' w.heap.size (fun _ => True) v0_ r ∧ Below w.heap.size w w'

set_option maxRecDepth 100000 in
set_option maxHeartbeats 2000000 in
theorem rarches_walk (t : ByteArray) (k : Nat) (w : World) (ht : isW t = true) (hk : 1 ≤ k ∧ k ≤ 4) (ho : overB (bl t) k = true) :
    Calls Try.prog 41 #[.string t, .int .i64 k] w (ROnePost (zs (ar (bl t) k (t.size + 1) 0)) w) := by
  obtain ⟨ht60, htl⟩ := (isW_iff t).1 ht
  have Htl := Lib.hid htl
  have Ho := Lib.hid ((overB_iff t k).1 ho)
  have Hbl := Lib.hid (bl_len t)
  clear ht ho htl
  go_enter Try.func41, Try.ntmps41
  go_wp2
  go_loopw [5, 7, 8] (fun vo vm vi wr => ∃ (i a f : Nat) (ps : List Nat) (cs : Array Value), vi = .int .i64 i ∧ i ≤ t.size ∧ a ≤ i ∧ vm = .int .i64 (cntS (bl t) a i k) ∧ ps.length ≤ i ∧ i ≤ tp (bl t) a k ∧ t.size + 1 ≤ f + a ∧ w.heap.size + 1 ≤ wr.heap.size ∧ Blk wr w.heap.size cs 96 ∧ Aside0 (SB (bl t) a i cs) ∧
      Aside0 (ar (bl t) k (t.size + 1) 0 = ps ++ ar (bl t) k f a) ∧ Aside0 (Kd.R (Kd.int .i64) 3 wr (w.heap.size + 1) (fun _ => True) vo (zs ps)) ∧ Aside0 (Below w.heap.size w wr)) (fun _ _ vi _ => t.size - (intOf vi).toNat)
  case atStart =>
    refine ⟨0, 0, t.size + 1, [], _, rfl, Nat.zero_le _, Nat.le_refl _, by rw [cntS_zero]; rfl, Nat.le_refl _, Nat.zero_le _, by omega, by simp, Blk.new _ _ _, ⟨rfl, by simp [OneC, Value.oneCell'], fun c hc => ?_⟩, ⟨rfl⟩, ⟨Kd.R_nil _ _ _ _ _⟩, ⟨below_new _ _⟩⟩
    rw [decide_eq_false (by omega)]
    rcases (show c = 0 ∨ c = 1 ∨ c = 2 ∨ c = 3 by omega) with rfl | rfl | rfl | rfl <;> rfl
  case round =>
    obtain ⟨i, a, f, ps, cs, rfl, hi, hai, rfl, hps, htp, hf, hsz, hcs, HS, HA, HO, HB⟩ := hrel
    by_cases hlt : i < t.size
    · obtain ⟨h97, h100⟩ := Htl.out i hlt
      obtain ⟨c0, hc0⟩ : ∃ c0, t[i].toNat = 97 + c0 := ⟨t[i].toNat - 97, by omega⟩
      have hck : c0 < k := by have := Ho.out i hlt; omega
      have hlet : (bl t)[i]'(by rw [Hbl.out]; exact hlt) = 97 + c0 := by rw [bl_get t i hlt]; exact hc0
      have hseen := fun c => nx_seen (bl t) a i c hai (by rw [Hbl.out]; exact hlt)
      have hcst := cntS_step (bl t) a i c0 hai (by rw [Hbl.out]; exact hlt) hlet k
      have hle := cntS_le (bl t) a i k
      have hle2 := cntS_le (bl t) a (i + 1) k
      have hall := cntS_all (bl t) a (i + 1) k hk.1
      have hcell : wr.cell? ⟨w.heap.size, c0, none⟩ = some (.bool (decide (nx (bl t) c0 a < i))) := by rw [hcs.cell]; exact HS.out.row c0 (by omega)
      have hfz : wr.frozen? ⟨w.heap.size, c0, none⟩ = false := hcs.frozen _
      have e1 : ((t[i].toNat : Int) - 97).toNat = c0 := by omega
      have j1 : (0 : Int) ≤ (t[i].toNat : Int) - 97 := by omega
      have j2 : (t[i].toNat : Int) - 97 < 4 := by omega
      have Hc0 := Lib.hid hc0
      have Hseen := Lib.hid hseen
      have Hlet := Lib.hid hlet
      have Hcst := Lib.hid hcst
      clear hc0 hseen hlet hcst
      have h97' : (97 : Int) ≤ (t[i].toNat : Int) := by omega
      have h100' : (t[i].toNat : Int) ≤ 100 := by omega
      have hallp := cntS_all (bl t) a i k hk.1
      obtain ⟨m, hm⟩ : ∃ m, m = cntS (bl t) a i k := ⟨_, rfl⟩
      rw [← hm] at hle hallp ⊢
      have hmk : m ≠ k := fun e => by have := hallp.1 e; omega
      have Hm := Lib.hid hm
      have Hall := Lib.hid hall
      clear hm hall hallp
      by_cases hsn : nx (bl t) c0 a < i
      · have hd : decide (nx (bl t) c0 a < i) = true := decide_eq_true hsn
        rw [hd] at hcell
        have htest : ((m : Int) == (k : Int)) = false := beq_eq_false_iff_ne.2 (by omega)
        have Hd := Lib.hid hd
        clear hd
        go_wp2
        go_roundw
        case rel =>
          have hc := Hcst.out
          rw [if_neg (by omega), ← Hm.out, Nat.add_zero] at hc
          have ha := Hall.out
          rw [hc] at ha
          refine ⟨i + 1, a, f, ps, cs, by go_num, by omega, by omega, by rw [hc]; rfl, by omega, ?_, hf, hsz, hcs, ⟨HS.out.size, HS.out.one, fun c h4 => ?_⟩, HA, HO, HB⟩
          · by_cases g : tp (bl t) a k < i + 1
            · exact absurd (ha.2 g) hmk
            · omega
          · rw [HS.out.row c h4]
            congr 2
            rw [decide_eq_decide]
            have h1 := Hseen.out c
            rw [Hlet.out] at h1
            rw [h1]
            constructor
            · exact .inl
            · rintro (h | h)
              · exact h
              · obtain rfl : c = c0 := by omega
                exact hsn
        case measure => simp [intOf]; omega
      · have hd : decide (nx (bl t) c0 a < i) = false := decide_eq_false hsn
        rw [hd] at hcell
        have Hd := Lib.hid hd
        clear hd
        have hcs1 := hcs.set c0 (.bool true)
        have hc := Hcst.out
        rw [if_pos ⟨hck, hsn⟩, ← Hm.out] at hc
        have ha := Hall.out
        rw [hc] at ha
        have Hc := Lib.hid hc
        have Ha := Lib.hid ha
        clear hc ha
        have hSB : SB (bl t) a (i + 1) (cs.setIfInBounds c0 (.bool true)) := by
          refine ⟨by rw [Array.size_setIfInBounds]; exact HS.out.size, HS.out.one.set _ rfl, fun c h4 => ?_⟩
          have h1 := Hseen.out c
          rw [Hlet.out] at h1
          by_cases hcc : c = c0
          · subst hcc
            rw [Array.getElem?_setIfInBounds_self, if_pos (by rw [HS.out.size]; omega), decide_eq_true (h1.2 (.inr rfl))]
          · rw [Array.getElem?_setIfInBounds_ne (by omega), HS.out.row c h4]
            congr 2
            rw [decide_eq_decide, h1]
            constructor
            · exact .inl
            · rintro (h | h)
              · exact h
              · omega
        have HSB := Lib.hid hSB
        have hB1 := HB.out.setCell (p := ⟨w.heap.size, c0, none⟩) (by simp) (.bool true)
        have hO1 := R_keep (w' := wr.setCell ⟨w.heap.size, c0, none⟩ (.bool true)) HO.out (fun g hg => Below.heap_setCell wr _ _ g (by simp; omega))
        have hz1 : w.heap.size + 1 ≤ (wr.setCell ⟨w.heap.size, c0, none⟩ (.bool true)).heap.size := by simpa using hsz
        clear hSB
        by_cases hmk1 : m + 1 = k
        · have htest : ((m : Int) + 1 == (k : Int)) = true := by rw [beq_iff_eq]; omega
          go_wp2_with (first | ((with_reducible refine gate_builtin (b := .append) (xs := #[.tmp 31, .tmp 33]) rfl ?_); at_builtin; go_loud (refine Kd.R_append (Kd.int .i64) (w0 := wr.setCell ⟨w.heap.size, c0, none⟩ (.bool true)) (w.heap.size + 1) rfl (.tmp 31) (.tmp 33) 24 3 (.int .i64 0) 8 rfl Try.underlying24 info3 rfl (by decide) (by omega) u5 (zs ps) i [.int .i64 i] (fun _ => True) (fun _ => False) rfl (by rw [World.size_setCell]; rfl) rfl (fun _ hk => hk.elim) (fun _ _ => trivial) hO1 (Below.refl _ _) hz1 (by rw [zs_len]; omega) ?_); intro v4 w4 ho hb hg hat; have hcs4 := hcs1.below hb (by omega); have hB4 := hB1.trans (hb.mono (by omega))) | (refine wpList_store_blk rfl 96 (.tmp 6) (.tmp 35) rfl w.heap.size _ 96 #[.bool false, .bool false, .bool false, .bool false] hcs4 rfl rfl (by rw [Array.size_setIfInBounds, HS.out.size]; rfl) (by kernel_rfl) (by simp [OneC, Value.oneCell']) ?_; intro w5 hb5 hg5 hcs5))
          go_roundw
          case rel =>
            have htp1 : tp (bl t) a k = i := by have := Ha.out.1 hmk1; omega
            have hz5 : w.heap.size + 1 ≤ w5.heap.size := by have := hcs5.lt; omega
            obtain ⟨f, rfl⟩ : ∃ g, f = g + 1 := ⟨f - 1, by omega⟩
            refine ⟨i + 1, i + 1, f, ps ++ [i], _, by go_num, by omega, Nat.le_refl _, by rw [cntS_zero]; rfl, by simp; omega, tp_lo _ _ _ hk.1, by omega, hz5, hcs5, ⟨rfl, by simp [OneC, Value.oneCell'], fun c h4 => ?_⟩, ⟨?_⟩, ⟨?_⟩, ⟨hb5 _ _ (Nat.le_refl _) hB4⟩⟩
            · have := nx_ge (bl t) c (i + 1)
              rw [decide_eq_false (by omega)]
              rcases (show c = 0 ∨ c = 1 ∨ c = 2 ∨ c = 3 by omega) with rfl | rfl | rfl | rfl <;> rfl
            · rw [HA.out, ar, htp1, if_neg (by rw [Hbl.out]; omega)]; simp
            · rw [zs_snoc]
              exact R_keep ho (fun g hg => hg5 g (by omega))
          case measure => simp [intOf]; omega
        · have htest : ((m : Int) + 1 == (k : Int)) = false := beq_eq_false_iff_ne.2 (by omega)
          go_wp2
          go_roundw
          case rel =>
            refine ⟨i + 1, a, f, ps, _, by go_num, by omega, by omega, ?_, by omega, ?_, hf, hz1, hcs1, ⟨HSB.out⟩, HA, ⟨hO1⟩, ⟨hB1⟩⟩
            · rw [Hc.out]; go_num
            · by_cases g : tp (bl t) a k < i + 1
              · exact absurd (Ha.out.2 g) hmk1
              · omega
          case measure => simp [intOf]; omega
    · obtain rfl : i = t.size := by omega
      go_wp2
      go_ret
      have h := HA.out
      have htl2 := tp_le (bl t) a (by rw [Hbl.out]; exact hai) k
      rw [Hbl.out] at htl2
      have hend : ar (bl t) k f a = [] := by
        cases f with
        | zero => rfl
        | succ f => rw [ar, if_pos (by rw [Hbl.out]; omega)]
      rw [hend, List.append_nil] at h
      rw [h]
      exact ⟨_, rfl, Kd.R_lower HO.out (by omega), HB.out⟩

theorem Given.tickingref03_Arches.calls (a0 : ByteArray) (a1 : Int) (r : List Int) (w : World) (h : Given.tickingref03_Arches.f a0 a1 = some r) :
    Calls Try.prog 41 #[.string a0, .int .i64 a1] w fun e w' => ∃ v0_ : Value, e = .returned (v0_) ∧ Kd.R (Kd.int .i64) 3 w' w.heap.size (fun _ => True) v0_ r ∧ Below w.heap.size w w' := by
  show Calls Try.prog 41 #[.string a0, .int .i64 a1] w (ROnePost r w)
  unfold Given.tickingref03_Arches.f at h
  split at h
  · rename_i hu
    unfold archOk at hu
    simp only [Bool.and_eq_true, decide_eq_true_eq] at hu
    obtain ⟨ht, ⟨h1, h2⟩, ho⟩ := hu
    obtain ⟨k, rfl⟩ : ∃ n : Nat, a1 = n := ⟨a1.toNat, by omega⟩
    obtain rfl := Option.some.inj h
    exact rarches_walk a0 k w ht (by omega) ho
  · cases h
end Go.Proofs.Ytfjbodaakmapdaa
