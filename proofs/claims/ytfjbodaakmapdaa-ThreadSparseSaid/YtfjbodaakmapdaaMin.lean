/-
  The walk of thread.Minimal.
-/
import Derived.Test.YtfjbodaakmapdaaOrd
namespace Go.Proofs.Ytfjbodaakmapdaa
open Go.RowKit Go.Shelf Go.Lib Th Kit Go.Proofs.YtfjbodaakmapdaaW.PrintWords

/-- Does Within tell that the first word is a subsequence of the second one? -/
def wiB (t s : ByteArray) : Bool := match Given.thread_Within.f t s with
  | some r => r.2 == 0
  | none => false

theorem closure58 (t s : ByteArray) (b : Nat) (w : World) (hc : w.cell? ⟨b, 0, none⟩ = some (.string s)) : Calls Try.prog 58 #[.string t, .pointer (some ⟨b, 0, none⟩)] w fun e w' => e = .returned (.bool (wiB t s)) ∧ Below w.heap.size w w' := by
  unfold wiB
  obtain ⟨r1, r2, h⟩ : ∃ r1 r2, Given.thread_Within.f t s = some (r1, r2) := ⟨_, _, rfl⟩
  rw [h]
  simp only
  have H := Lib.hid h
  clear h
  go_enter Try.func58, Try.ntmps58
  go_wp2_with (go_at_call 18; refine (Given.thread_Within.calls t s _ _ _ H.out).mono ?_; rintro e w' ⟨v, rfl, _, hB⟩)
  go_ret
  exact ⟨rfl, hB⟩

/-- IndexFunc over the words so far. -/
theorem idxWi_any (A : Option Addr) (c : Nat) (l : List ByteArray) (s : ByteArray) (b : Nat) (w : World) (hr : SR w A l) (hb : b < w.heap.size) (hc : w.cell? ⟨b, 0, none⟩ = some (.string s)) :
    Calls Try.prog 71 #[.slice A l.length c, .func (.func 58) #[] #[.pointer (some ⟨b, 0, none⟩)]] w fun e w' => ∃ i : Int, e = .returned (.int .i64 i) ∧ decide (0 ≤ i) = l.any (fun t => wiB t s) ∧ -1 ≤ i ∧ i ≤ 9223372036854775807 ∧ Below w.heap.size w w' := by
  have hmax := hr.max
  have Hc := Lib.hid hc
  clear hc
  go_enter Try.func71, Try.ntmps71
  go_wp2
  go_loopw [8] (fun v wr => ∃ k : Nat, v = .int .i64 k ∧ k ≤ l.length ∧ Aside0 ((l.take k).any (fun t => wiB t s) = false) ∧ Aside0 (Below w.heap.size w wr)) (fun v _ => l.length - (intOf v).toNat)
  case atStart => exact ⟨0, rfl, Nat.zero_le _, ⟨rfl⟩, ⟨Below.refl _ _⟩⟩
  case round =>
    obtain ⟨k, rfl, hk, HT, HB⟩ := hrel
    by_cases hlt : k < l.length
    · obtain ⟨t, hs⟩ : ∃ t, l[k]? = some t := ⟨_, List.getElem?_eq_getElem hlt⟩
      obtain ⟨ad, rfl, hcc⟩ := (hr.below HB.out).at_ k t hs
      have Hs := Lib.hid hs
      have hts : l.take (k + 1) = l.take k ++ [t] := by rw [List.take_add_one, hs]; rfl
      have Hts := Lib.hid hts
      have Hcl := Lib.hid ((HB.out.cell (p := ⟨b, 0, none⟩) hb).trans Hc.out)
      clear hs hts
      cases hbad : wiB t s with
      | true =>
        have Hbad := Lib.hid hbad
        clear hbad
        go_wp2_with (go_at_call 58; refine (closure58 t s b _ Hcl.out).mono ?_; rw [Hbad.out]; rintro e w' ⟨rfl, hB2⟩)
        go_ret
        have hany : l.any (fun t => wiB t s) = true := List.any_eq_true.2 ⟨t, List.mem_of_getElem? Hs.out, Hbad.out⟩
        exact ⟨k, rfl, by rw [hany]; simp, by omega, by omega, HB.out.trans (hB2.mono HB.out.size)⟩
      | false =>
        have Hbad := Lib.hid hbad
        clear hbad
        go_wp2_with (go_at_call 58; refine (closure58 t s b _ Hcl.out).mono ?_; rw [Hbad.out]; rintro e w' ⟨rfl, hB2⟩)
        go_roundw
        case rel => exact ⟨k + 1, by go_num, by omega, ⟨by rw [Hts.out, List.any_append, HT.out]; simp [Hbad.out]⟩, ⟨HB.out.trans (hB2.mono HB.out.size)⟩⟩
        case measure => simp [intOf]; omega
    · obtain rfl : k = l.length := by omega
      go_wp2
      go_ret
      have hany := HT.out
      rw [List.take_length] at hany
      exact ⟨-1, rfl, by rw [hany]; rfl, by omega, by omega, HB.out⟩

theorem contWi_any (A : Option Addr) (c : Nat) (l : List ByteArray) (s : ByteArray) (b : Nat) (w : World) (hr : SR w A l) (hb : b < w.heap.size) (hc : w.cell? ⟨b, 0, none⟩ = some (.string s)) :
    Calls Try.prog 57 #[.slice A l.length c, .func (.func 58) #[] #[.pointer (some ⟨b, 0, none⟩)]] w fun e w' => e = .returned (.bool (l.any (fun t => wiB t s))) ∧ Below w.heap.size w w' := by
  have hi := idxWi_any A c l s b w hr hb hc
  clear hc
  go_enter Try.func57, Try.ntmps57
  go_wp2_with (go_at_call 71; refine hi.mono ?_; rintro e w' ⟨i, rfl, hd, hi1, hi2, hB2⟩; have Hd := Lib.hid hd; clear hd)
  go_ret
  have e : ∀ a b : Bool, a = b → Ending.returned (Value.bool a) = .returned (.bool b) := fun a b h => by rw [h]
  exact ⟨e _ _ Hd.out, hB2⟩

/-- The minimal ones of words in their order. -/
def mnF : List ByteArray → List ByteArray → List ByteArray
  | out, [] => out
  | out, s :: r => mnF (if out.any (fun t => wiB t s) = true then out else out ++ [s]) r
/-- A family's words in their order, each once. -/
def mnC (l : List ByteArray) : List ByteArray := compactUpTo (Sort.insertionSort (ltOf blC) l.toArray 0 l.length) l.length
def MinPost (r1 : List ByteArray) (r2 : Int) (w : World) (e : Ending) (w' : World) : Prop :=
  ∃ v0_ : Value, e = .returned (.tuple #[v0_, .int .i64 r2]) ∧ Kd.R Kd.string 9 w' w.heap.size (fun _ => True) v0_ r1 ∧ Below w.heap.size w w'
def Given.thread_Minimal.f (l : List ByteArray) : Option (List ByteArray × Int) := some (if isFam l = true then (mnF [] (mnC l), 0) else ([], 2))

theorem min_no (A : Option Addr) (cp : Nat) (l : List ByteArray) (w : World) (hr : SR w A l) (h : isFam l = false) : Calls Try.prog 35 #[.slice A l.length cp] w (MinPost [] 2 w) := by
  have Hf := Lib.hid h
  clear h
  go_enter Try.func35, Try.ntmps35
  go_wp2_with fail
  refine (isFamily_any A cp l _ hr).mono ?_
  rw [Hf.out]
  rintro e w1 ⟨rfl, hB1⟩
  go_wp2
  go_ret2
  exact ⟨_, rfl, Kd.R_nil _ _ _ _ _, hB1⟩

theorem spot_none {w : World} {ad : Addr} {v : Value} (h : w.cell? (ad.add 0) = some v) : ad.spot = none := by
  have e : ad.add 0 = ad := by unfold Addr.add; rw [if_pos rfl]
  rw [e] at h
  unfold World.cell? at h
  split at h
  · split at h
    · cases h
    · rename_i hn
      cases hs : ad.spot with
      | none => rfl
      | some x => rw [hs] at hn; exact absurd rfl hn
  · cases h
theorem add_none (b off j : Nat) : (⟨b, off, none⟩ : Addr).add j = ⟨b, off + j, none⟩ := by
  unfold Addr.add
  split
  · rename_i h; subst h; rfl
  · rfl

theorem own_holds {w : World} {base n : Nat} {v : Value} {l : List ByteArray} (h : w.ownsRow base 9 1 v n (l.map Value.string)) (hn : n = l.length) (hne : v ≠ .slice none 0 0) :
    ∃ g cap, v = .slice (some ⟨g, 0, none⟩) l.length cap ∧ base ≤ g ∧ g < w.heap.size ∧ l.length ≤ cap ∧ Sort.Holds Value.string w g 0 l.toArray := by
  subst hn
  have hcell := fun {g cap : Nat} (e : v = .slice (some ⟨g, 0, none⟩) l.length cap) => World.ownsRow.cellAt (g := g) (cap := cap) (e ▸ h)
  rcases h.2 with ⟨rfl, _⟩ | ⟨g, cap, cur, rfl, hb, hh, hc, _, _, _⟩
  · exact absurd rfl hne
  · refine ⟨g, cap, rfl, hb, (Array.getElem?_eq_some_iff.1 hh).1, hc, fun j hj => ?_⟩
    have hj' : j < l.length := by simpa using hj
    refine ⟨?_, frozen_of_row _ _ _ _ _ hh⟩
    have := hcell rfl j (by omega)
    rw [Nat.zero_add, this, List.getElem?_map, List.getElem?_eq_getElem hj']
    simp [hj']

theorem clone2_any (a : Addr) (c : Nat) (l : List ByteArray) (w : World) (hr : SR w (some a) l) (h4 : l.length ≤ 4) :
    Calls Try.prog 53 #[.slice (some a) l.length c] w fun e w' => ∃ g cap, e = .returned (.slice (some ⟨g, 0, none⟩) l.length cap) ∧ w.heap.size ≤ g ∧ g < w'.heap.size ∧ l.length ≤ cap ∧ Sort.Holds Value.string w' g 0 l.toArray ∧ Below w.heap.size w w' := by
  by_cases h0 : l.length = 0
  · have hl : l = [] := List.length_eq_zero_iff.1 h0
    subst hl
    have hz : Calls Try.prog 53 #[.slice (some a) 0 c] w fun e w' => ∃ v', e = .returned v' ∧ w'.ownsRow w.heap.size 9 1 v' 0 [] ∧ v' ≠ .slice none 0 0 ∧ Below w.heap.size w w' := Any.slices_Clone_string_zero Try.srtClone a c w
    refine hz.mono ?_
    rintro e w' ⟨v', rfl, ho, hne, hB⟩
    obtain ⟨g, cap, rfl, h1, h2, h3, h4⟩ := own_holds (l := []) ho rfl hne
    exact ⟨g, cap, rfl, h1, h2, h3, h4, hB⟩
  · obtain ⟨s, hs⟩ : ∃ s, l[0]? = some s := ⟨_, List.getElem?_eq_getElem (by omega)⟩
    obtain ⟨ad, e, hc0⟩ := hr.at_ 0 s hs
    obtain rfl := Option.some.inj e
    have hsp := spot_none hc0
    obtain ⟨b, off, sp⟩ := a
    simp only at hsp
    subst hsp
    refine (clone_any b off l.length c l w (Nat.le_refl _) (by omega) (fun j hj => ?_)).mono ?_
    · obtain ⟨ad, e, hcj⟩ := hr.at_ j _ (List.getElem?_eq_getElem hj)
      obtain rfl := Option.some.inj e
      rw [List.getD_eq_getElem?_getD, List.getElem?_eq_getElem hj, ← add_none]
      exact hcj
    · rintro e w' ⟨v', rfl, ho, hne, hB⟩
      rw [List.take_length] at ho
      obtain ⟨g, cap, rfl, h1, h2, h3, h4⟩ := own_holds ho rfl hne
      exact ⟨g, cap, rfl, h1, h2, h3, h4, hB⟩

theorem info9' : (Try.prog.info? 9).map (fun i => (i.zero, i.size, i.bytes)) = some (some (.string ⟨#[]⟩), 1, 16) := by kernel_rfl

set_option maxRecDepth 100000 in
set_option maxHeartbeats 2000000 in
theorem min_some (a : Addr) (cp : Nat) (l : List ByteArray) (w : World) (hr : SR w (some a) l) (hf : isFam l = true) : Calls Try.prog 35 #[.slice (some a) l.length cp] w (MinPost (mnF [] (mnC l)) 0 w) := by
  have h4 : l.length ≤ 4 := by
    unfold isFam at hf
    rw [Bool.and_eq_true] at hf
    exact of_decide_eq_true hf.1
  have Hf := Lib.hid hf
  clear hf
  go_enter Try.func35, Try.ntmps35
  go_wp2_with fail
  refine (isFamily_any (some a) cp l _ hr).mono ?_
  rw [Hf.out]
  rintro e w1 ⟨rfl, hB1⟩
  have hr1 := hr.below hB1
  go_wp2_with fail
  refine (clone2_any a cp l _ hr1 h4).mono ?_
  rintro e w2 ⟨g, cap, rfl, hg, hlt, hcap, hH, hB2⟩
  have hB3 := hB1.trans (hB2.mono hB1.size)
  have hwg : w.heap.size ≤ g := Nat.le_trans hB1.size hg
  clear hB1 hB2 hr1 hr
  have hsort := sort_any g cap l.toArray w2 hH hlt (by simpa using (by omega : l.length ≤ 12))
  have hsz := ins_size l
  simp only [List.size_toArray] at hsort
  have hmc : mnC l = compactUpTo (Sort.insertionSort (ltOf blC) l.toArray 0 l.length) l.length := rfl
  generalize Sort.insertionSort (ltOf blC) l.toArray 0 l.length = d2 at hsort hsz hmc
  have Hmc := Lib.hid hmc
  have Hsz := Lib.hid hsz
  have HH := Lib.hid hH
  clear hmc hsz hH
  go_wp2_with fail
  refine hsort.mono ?_
  rintro e w3 ⟨rfl, hS⟩
  have hB4 := hB3.trans (below_SW (B := w.heap.size) hS hwg hB3.size)
  have hH3 := hS.holds hlt HH.out (by rw [Hsz.out]; simp)
  have hlt3 := hS.lt hlt
  clear hsort hS hB3
  have hcp := compact_any g cap d2 w3 hH3 (by rw [Hsz.out]; omega) (by rw [Hsz.out]; exact hcap)
  rw [Hsz.out] at hcp
  go_wp2_with fail
  refine hcp.mono ?_
  rintro e w4 ⟨rfl, q, rfl⟩
  have hm : (compactUpTo d2 l.length).length ≤ l.length := by
    unfold compactUpTo
    rw [List.length_map]
    have := List.length_filter_le (Lib.keeps d2) (List.range l.length)
    rw [List.length_range] at this
    exact this
  rw [← Hmc.out] at hm ⊢
  have hB5 : Below w.heap.size w (Sort.putRow Value.string (Sort.ahead w3 q) g 0 (mnC l ++ List.replicate (l.length - (mnC l).length) ByteArray.empty).toArray) := by
    have h := below_putRow (B := w.heap.size) (w := Sort.ahead w3 q) Value.string g 0 (mnC l ++ List.replicate (l.length - (mnC l).length) ByteArray.empty).toArray hwg
    exact hB4.trans ⟨h.os, h.tape, h.output, h.size, h.block⟩
  have hH5 := Sort.holds_putRow Value.string (Sort.ahead w3 q) g 0 d2 (mnC l ++ List.replicate (l.length - (mnC l).length) ByteArray.empty).toArray hH3 (by rw [Hsz.out]; simp; omega)
  have hlt5 : g < (Sort.putRow Value.string (Sort.ahead w3 q) g 0 (mnC l ++ List.replicate (l.length - (mnC l).length) ByteArray.empty).toArray).heap.size := by rw [Sort.size_putRow]; exact hlt3
  have hcells : ∀ j s, (mnC l)[j]? = some s → (Sort.putRow Value.string (Sort.ahead w3 q) g 0 (mnC l ++ List.replicate (l.length - (mnC l).length) ByteArray.empty).toArray).cell? ⟨g, j, none⟩ = some (Value.string s) := fun j s hj => by
    have hjl := (List.getElem?_eq_some_iff.1 hj).1
    have h := (hH5 j (by simp; omega)).1
    rw [Nat.zero_add] at h
    rw [h]
    congr 2
    rw [getElem!_pos _ _ (by simp; omega)]
    simp only [List.getElem_toArray]
    rw [List.getElem_append_left hjl]
    exact (List.getElem?_eq_some_iff.1 hj).2
  generalize Sort.putRow Value.string (Sort.ahead w3 q) g 0 (mnC l ++ List.replicate (l.length - (mnC l).length) ByteArray.empty).toArray = w5 at hB5 hH5 hlt5 hcells ⊢
  have Hc5 := Lib.hid hcells
  clear hcp hH5 hH3 hlt3 hB4 hcells Hsz Hmc HH hlt
  generalize hcl : mnC l = cl at *
  have Hcl := Lib.hid hcl
  clear hcl
  go_wp2
  go_loopw [5, 18] (fun vo vk wr => ∃ (k : Nat) (out : List ByteArray), vk = .int .i64 k ∧ k ≤ cl.length ∧ out.length ≤ k ∧ Aside0 (mnF [] cl = mnF out (cl.drop k)) ∧ Aside0 (Kd.R Kd.string 9 wr w5.heap.size (fun _ => True) vo out) ∧ Aside0 (Below w5.heap.size w5 wr)) (fun _ vk _ => cl.length - (intOf vk).toNat)
  case atStart => exact ⟨0, [], rfl, Nat.zero_le _, Nat.zero_le _, ⟨by rw [List.drop_zero]⟩, ⟨Kd.R_nil _ _ _ _ _⟩, ⟨Below.refl _ _⟩⟩
  case round =>
    obtain ⟨k, out, rfl, hk, hol, HF, HO, HB⟩ := hrel
    by_cases hkl : k < cl.length
    · obtain ⟨s, hs⟩ : ∃ s, cl[k]? = some s := ⟨_, List.getElem?_eq_getElem hkl⟩
      have hck : wr.cell? ⟨g, k, none⟩ = some (.string s) := (HB.out.cell (p := ⟨g, k, none⟩) hlt5).trans (Hc5.out k s hs)
      have hd : cl.drop k = s :: cl.drop (k + 1) := by
        rw [List.drop_eq_getElem_cons hkl]
        congr 1
        exact (List.getElem?_eq_some_iff.1 hs).2
      have Hd := Lib.hid hd
      clear hs hd
      obtain ⟨A5, c5, e5, _, hC5⟩ := Kd.R_reads HO.out
      have hsr := (SR.of wr A5 out hC5).below (below_new wr (.cells #[.string s] 9))
      have hbox := (Blk.new wr #[.string s] 9)
      have hcb := hbox.cell 0
      simp only [List.getElem?_toArray, List.getElem?_cons_zero] at hcb
      have hcall := contWi_any A5 c5 out s wr.heap.size _ hsr hbox.lt hcb
      subst e5
      clear hC5 hsr hcb
      cases hany : out.any (fun t => wiB t s) with
      | true =>
        rw [hany] at hcall
        have Hany := Lib.hid hany
        clear hany hbox
        go_wp2_with fail
        refine hcall.mono ?_
        rintro e w6 ⟨rfl, hB6⟩
        have hB7 := (HB.out.trans (((below_new wr (.cells #[.string s] 9)).trans (hB6.mono (by simp))).mono HB.out.size))
        have hO7 := Kd.R_below (Kd.R_alloc HO.out (.cells #[.string s] 9)) hB6
        clear hcall hB6
        go_wp2
        go_roundw
        case rel =>
          refine ⟨k + 1, out, by go_num, by omega, by omega, ⟨?_⟩, ⟨hO7⟩, ⟨hB7⟩⟩
          rw [HF.out, Hd.out, mnF, if_pos Hany.out]
        case measure => simp [intOf]; omega
      | false =>
        rw [hany] at hcall
        have Hany := Lib.hid hany
        clear hany
        go_wp2_with fail
        refine hcall.mono ?_
        rintro e w6 ⟨rfl, hB6⟩
        have hB7 := (HB.out.trans (((below_new wr (.cells #[.string s] 9)).trans (hB6.mono (by simp))).mono HB.out.size))
        have hO7 := Kd.R_below (Kd.R_alloc HO.out (.cells #[.string s] 9)) hB6
        have hc7 := (hbox.below' hB6).cell 0
        simp only [List.getElem?_toArray, List.getElem?_cons_zero] at hc7
        clear hcall hB6 hbox
        go_wp2_with ((with_reducible refine gate_builtin (b := .append) (xs := #[.tmp 26, .tmp 28]) rfl ?_); at_builtin; refine Kd.R_append Kd.string (w0 := w5) w5.heap.size rfl (.tmp 26) (.tmp 28) 41 9 (.string ⟨#[]⟩) 16 rfl Try.underlying41 info9' rfl (by decide) (by omega) (.slice A5 out.length c5) out s [.string s] (fun _ => True) (fun _ => False) rfl rfl rfl (fun _ hk => hk.elim) (fun _ _ => trivial) hO7 hB7 hB7.size (by omega) ?_; intro v8 w8 ho hb hg8 hat)
        go_roundw
        case rel =>
          refine ⟨k + 1, out ++ [s], by go_num, by omega, by simp; omega, ⟨?_⟩, ⟨ho⟩, ⟨hb⟩⟩
          rw [HF.out, Hd.out, mnF, if_neg (by rw [Hany.out]; simp)]
        case measure => simp [intOf]; omega
    · obtain rfl : k = cl.length := by omega
      go_wp2
      go_ret2
      have h := HF.out
      rw [List.drop_length, mnF] at h
      rw [h]
      exact ⟨_, rfl, Kd.R_lower HO.out hB5.size, hB5.trans (HB.out.mono hB5.size)⟩

set_option maxRecDepth 100000 in
set_option maxHeartbeats 2000000 in
theorem sort_nil (w : World) : Calls Try.prog 54 #[.slice none 0 0, .func (.func 55) #[] #[]] w fun e w' => e = .returned (.tuple #[]) ∧ w' = w := by
  have hl : Calls Try.prog 67 #[.int .u64 0] w fun e w' => e = .returned (.int .i64 (Lib.bitLen (0 : Int).toNat)) ∧ w' = w := Any.bits_Len Try.srtLen 0 w (by omega) (by omega)
  generalize (Lib.bitLen (0 : Int).toNat : Int) = z at hl
  have hi : Calls Try.prog 74 #[.slice none 0 0, .int .i64 0, .int .i64 0, .func (.func 55) #[] #[]] w fun e w' => e = .returned (.tuple #[]) ∧ w' = w := by
    go_enter Try.func74, Try.ntmps74
    go_wp2
    refine wp_loop_rounds 1 ?_
    rw [rounds_succ]
    go_wp2
    (try simp only [Exit.inBlock, Exit.then])
    go_end0
    exact ⟨rfl, rfl⟩
  have hp : Calls Try.prog 66 #[.slice none 0 0, .int .i64 0, .int .i64 0, .int .i64 z, .func (.func 55) #[] #[]] w fun e w' => e = .returned (.tuple #[]) ∧ w' = w := by
    go_enter Try.func66, Try.ntmps66
    go_wp2
    refine wp_loop_rounds 1 ?_
    rw [rounds_succ]
    go_wp2_with (go_at_call 74; refine hi.mono ?_; rintro e w' ⟨rfl, rfl⟩)
    (try simp only [Exit.inBlock, Exit.then])
    refine bodyPost_ret (results_none rfl _ _ _) rfl ?_
    exact ⟨rfl, rfl⟩
  go_enter Try.func54, Try.ntmps54
  go_wp2_with (first | (go_at_call 67; refine hl.mono ?_; rintro e w' ⟨rfl, rfl⟩) | (go_at_call 66; refine hp.mono ?_; rintro e w' ⟨rfl, rfl⟩))
  go_end0
  exact ⟨rfl, rfl⟩

set_option maxRecDepth 100000 in
set_option maxHeartbeats 2000000 in
theorem min_nil (cp : Nat) (w : World) : Calls Try.prog 35 #[.slice none 0 cp] w (MinPost [] 0 w) := by
  have hr : SR w none [] := ⟨by simp, fun i s h => by simp at h⟩
  have hcl : ∀ w, Calls Try.prog 53 #[.slice none 0 cp] w fun e w' => e = .returned (.slice none 0 0) ∧ w' = w := fun w => Any.slices_Clone_string_nil Try.srtClone 0 cp w
  have hco : ∀ w, Calls Try.prog 56 #[.slice none 0 0] w fun e w' => e = .returned (.slice none 0 0) ∧ w' = w := fun w => by
    go_enter Try.func56, Try.ntmps56
    go_wp2
    go_ret
    exact ⟨rfl, rfl⟩
  go_enter Try.func35, Try.ntmps35
  go_wp2_with fail
  refine (isFamily_any none cp [] _ hr).mono ?_
  rw [show isFam [] = true from rfl]
  rintro e w1 ⟨rfl, hB1⟩
  go_wp2_with (first | (go_at_call 53; refine (hcl _).mono ?_; rintro e w' ⟨rfl, rfl⟩) | (go_at_call 54; refine (sort_nil _).mono ?_; rintro e w' ⟨rfl, rfl⟩) | (go_at_call 56; refine (hco _).mono ?_; rintro e w' ⟨rfl, rfl⟩))
  refine wp_loop_rounds 1 ?_
  rw [rounds_succ]
  go_wp2
  (try simp only [Exit.inBlock, Exit.then])
  go_ret2
  exact ⟨_, rfl, Kd.R_nil _ _ _ _ _, hB1⟩

theorem Given.thread_Minimal.calls (A0 : Option Addr) (c0 : Nat) (l0 : List ByteArray) (r1 : List ByteArray) (r2 : Int) (w : World) (hr0 : Kd.C Kd.string w A0 l0.length l0) (_hc0 : l0.length ≤ c0) (h : Given.thread_Minimal.f l0 = some (r1, r2)) :
    Calls Try.prog 35 #[.slice A0 l0.length c0] w fun e w' => ∃ v0_ : Value, e = .returned (.tuple #[v0_, .int .i64 r2]) ∧ Kd.R Kd.string 9 w' w.heap.size (fun _ => True) v0_ r1 ∧ Below w.heap.size w w' := by
  show Calls Try.prog 35 #[.slice A0 l0.length c0] w (MinPost r1 r2 w)
  have hs := SR.of w A0 l0 hr0
  unfold Given.thread_Minimal.f at h
  cases hu : isFam l0 with
  | false =>
    rw [hu, if_neg (by simp)] at h
    obtain ⟨rfl, rfl⟩ := Prod.mk.inj (Option.some.inj h)
    exact min_no A0 c0 l0 w hs hu
  | true =>
    rw [hu, if_pos rfl] at h
    obtain ⟨rfl, rfl⟩ := Prod.mk.inj (Option.some.inj h)
    cases A0 with
    | some a => exact min_some a c0 l0 w hs hu
    | none =>
      have hl : l0 = [] := by
        cases l0 with
        | nil => rfl
        | cons x r =>
          obtain ⟨ad, e, _⟩ := hs.at_ 0 x rfl
          cases e
      subst hl
      exact min_nil c0 w
end Go.Proofs.Ytfjbodaakmapdaa
