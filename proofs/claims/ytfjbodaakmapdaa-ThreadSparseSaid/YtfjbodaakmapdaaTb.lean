/-
  The contracts of thread.Differ, Same and Free.
-/
import Derived.Maps.RangeWalk
import Derived.Maps.OwnIn
import Derived.DeepKeys4
import Derived.Test.YtfjbodaakmapdaaTa
/-! ## Map -/
namespace Go.Proofs.Ytfjbodaakmapdaa.Kit
open Go.RowKit
open Go.ChangeMaps (setBlock)

variable {κ ν : Type}

/-- The keys of a map's type, named by plain data. -/
structure KF (P : Program) (K : TypeId) (kf : κ → Value) (ok : κ → Prop) : Prop where
  law : Go.Maps.Keyed P K
  key : ∀ x, ok x → ∃ l, keyOf P K (kf x) = some l
  inj : ∀ x y, kf x = kf y → x = y

theorem nodup_inj {α : Type} {l : List α} (h : l.Nodup) {i j : Nat} (hi : i < l.length) (hj : j < l.length) (e : l[i] = l[j]) : i = j := by
  have hp := List.pairwise_iff_getElem.1 h
  rcases Nat.lt_trichotomy i j with h1 | h1 | h1
  · exact absurd e (hp i j hi hj h1)
  · exact h1
  · exact absurd e.symm (hp j i hj hi h1)

def getL [DecidableEq κ] (l : List (κ × ν)) (k : κ) : Option ν := (l.find? fun p => p.1 = k).map (·.2)
def putL [DecidableEq κ] (l : List (κ × ν)) (k : κ) (v : ν) : List (κ × ν) := if (getL l k).isSome then l.map (fun p => if p.1 = k then (k, v) else p) else l ++ [(k, v)]

/-- The entries of a map's block, named by plain data, in the order of their coming. -/
structure ME (kf : κ → Value) (vf : ν → Value) (ok : κ → Prop) (es : Array MapEntry) (clock : Nat) (l : List (κ × ν)) : Prop where
  is : es.toList.map (fun e => (e.key, e.val)) = l.map (fun p => (kf p.1, vf p.2))
  born : ∀ e ∈ es.toList, e.born < clock
  apart : (es.toList.map (·.born)).Nodup
  keys : (l.map (·.1)).Nodup
  ok : ∀ p ∈ l, ok p.1

structure MB (w : World) (b : Nat) (kf : κ → Value) (vf : ν → Value) (ok : κ → Prop) (l : List (κ × ν)) : Prop where
  out : ∃ es clock, w.heap[b]? = some (.map es clock) ∧ ME kf vf ok es clock l

variable {P : Program} {K T E : TypeId} {kf : κ → Value} {vf : ν → Value} {ok : κ → Prop} {w w' : World} {b : Nat} {l : List (κ × ν)}

theorem MB.lt (h : MB w b kf vf ok l) : b < w.heap.size := by
  obtain ⟨es, clock, hb, _⟩ := h.out
  exact (Array.getElem?_eq_some_iff.1 hb).1
theorem MB.same (h : MB w b kf vf ok l) (e : w'.heap[b]? = w.heap[b]?) : MB w' b kf vf ok l := by
  obtain ⟨es, clock, hb, hm⟩ := h.out
  exact ⟨es, clock, e.trans hb, hm⟩
theorem MB.alloc (h : MB w b kf vf ok l) (x : Obj) : MB (w.alloc x) b kf vf ok l := h.same (Below.heap_alloc w x b h.lt)
theorem MB.drewN (h : MB w b kf vf ok l) (n : Nat) : MB (w.drewN n) b kf vf ok l := h.same rfl
theorem MB.drew (h : MB w b kf vf ok l) : MB w.drew b kf vf ok l := h.same rfl
theorem MB.setCell (h : MB w b kf vf ok l) (p : Addr) (hp : b ≠ p.block) (v : Value) : MB (w.setCell p v) b kf vf ok l := h.same (Below.heap_setCell w p v b hp)
theorem MB.below {B : Nat} (h : MB w b kf vf ok l) (hb : Below B w w') (hB : b < B) : MB w' b kf vf ok l := h.same (hb.block b hB)
theorem MB.but {S : Nat → Prop} (h : MB w b kf vf ok l) (hb : But S w w') (hs : ¬ S b) : MB w' b kf vf ok l := h.same (hb.block b h.lt hs)
theorem MB.grown {row : Option Nat} (h : MB w b kf vf ok l) (hg : w.grownBy w' row) (hr : some b ≠ row) : MB w' b kf vf ok l := h.same (hg.block b h.lt hr)
theorem MB.new (w : World) (kf : κ → Value) (vf : ν → Value) (ok : κ → Prop) : MB (w.alloc (.map #[] 0)) w.heap.size kf vf ok [] :=
  ⟨⟨#[], 0, (MapKept.heap_alloc w _).1, ⟨rfl, by simp, by simp, by simp, by simp⟩⟩⟩

theorem ME.get {es : Array MapEntry} {clock : Nat} (m : ME kf vf ok es clock l) {j : Nat} {e : MapEntry} (h : es[j]? = some e) : ∃ p, l[j]? = some p ∧ e.key = kf p.1 ∧ e.val = vf p.2 := by
  have h1 := congrArg (fun z => z[j]?) m.is
  simp only [List.getElem?_map, Array.getElem?_toList, h, Option.map_some] at h1
  cases hl : l[j]? with
  | none => rw [hl] at h1; cases h1
  | some p =>
    rw [hl] at h1
    simp only [Option.map_some, Option.some.injEq, Prod.mk.injEq] at h1
    exact ⟨p, rfl, h1.1, h1.2⟩
theorem ME.len {es : Array MapEntry} {clock : Nat} (m : ME kf vf ok es clock l) : es.size = l.length := by
  have := congrArg List.length m.is
  simpa using this
theorem ME.at {es : Array MapEntry} {clock : Nat} (m : ME kf vf ok es clock l) {j : Nat} {p : κ × ν} (h : l[j]? = some p) : ∃ e, es[j]? = some e ∧ e.key = kf p.1 ∧ e.val = vf p.2 := by
  have hj : j < es.size := by rw [m.len]; exact (List.getElem?_eq_some_iff.1 h).1
  obtain ⟨q, hq, h1, h2⟩ := m.get (Array.getElem?_eq_getElem hj)
  rw [h] at hq
  cases hq
  exact ⟨_, Array.getElem?_eq_getElem hj, h1, h2⟩

variable [DecidableEq κ]
theorem getL_none {k : κ} : getL l k = none ↔ ∀ p ∈ l, p.1 ≠ k := by
  unfold getL
  rw [Option.map_eq_none_iff, List.find?_eq_none]
  simp
theorem getL_at (hn : (l.map (·.1)).Nodup) {j : Nat} {p : κ × ν} (h : l[j]? = some p) : getL l p.1 = some p.2 := by
  unfold getL
  have : l.find? (fun q => q.1 = p.1) = some p := by
    rw [List.find?_eq_some_iff_getElem]
    obtain ⟨hj, e⟩ := List.getElem?_eq_some_iff.1 h
    refine ⟨by simp, j, hj, e, fun i hi => ?_⟩
    simp only [Bool.not_eq_true', decide_eq_false_iff_not]
    intro e2
    have h3 : (l.map (·.1))[i]'(by simp; omega) = (l.map (·.1))[j]'(by simpa using hj) := by simp [e, e2]
    have := nodup_inj hn _ _ h3
    omega
  rw [this]; rfl

/-- Where a key stands. -/
theorem ME.find (H : KF P K kf ok) {es : Array MapEntry} {clock : Nat} (m : ME kf vf ok es clock l) (w : World) (k : κ) (hk : ok k) :
    ((Instr.findKey K (kf k) es.toList).run P w = .ok none w ∧ getL l k = none) ∨
    ∃ j v, (Instr.findKey K (kf k) es.toList).run P w = .ok (some (j, vf v)) w ∧ l[j]? = some (k, v) ∧ getL l k = some v := by
  obtain ⟨lx, hlx⟩ := H.key k hk
  rcases H.law.find w hlx es.toList (fun e he => by
    obtain ⟨j, hj⟩ := List.getElem?_of_mem he
    obtain ⟨p, hp, h1, _⟩ := m.get (by simpa using hj)
    rw [h1]
    exact H.key p.1 (m.ok p (List.mem_of_getElem? hp))) with ⟨h1, h2⟩ | ⟨j, e, h1, h2, h3⟩
  · refine .inl ⟨h1, getL_none.2 fun p hp e => ?_⟩
    obtain ⟨j, hj⟩ := List.getElem?_of_mem hp
    obtain ⟨e', he', h4, _⟩ := m.at hj
    exact h2 e' (List.mem_of_getElem? (by simpa using he')) (by rw [h4, e])
  · obtain ⟨p, hp, h4, h5⟩ := m.get (by simpa using h2)
    have hpk : p.1 = k := H.inj _ _ (by rw [← h4, h3])
    obtain ⟨pk, pv⟩ := p
    simp only at hpk h5
    subst hpk
    exact .inr ⟨j, pv, by rw [h1, h5], hp, getL_at m.keys hp⟩

theorem MB.look (H : KF P K kf ok) (h : MB w b kf vf ok l) (ht : P.underlying T = some (.map K E)) {z : Value} (hz : (zeroValue E).run P w = .ok z w) (k : κ) (hk : ok k) (c : Bool) :
    (Instr.lookup T (.map (some b)) (kf k) c).run P w = .ok (if c then .tuple #[((getL l k).map vf).getD z, .bool (getL l k).isSome] else ((getL l k).map vf).getD z) w := by
  obtain ⟨es, clock, hb, m⟩ := h.out
  obtain ⟨lx, hlx⟩ := H.key k hk
  rcases m.find H w k hk with ⟨h1, h2⟩ | ⟨j, v, h1, _, h2⟩
  · cases c <;> simp [Instr.lookup, run_underlying ht, MapKept.run_getObj_map hb, H.law.check w _ hlx, h1, h2, hz, Result.andThen]
  · cases c <;> simp [Instr.lookup, run_underlying ht, MapKept.run_getObj_map hb, H.law.check w _ hlx, h1, h2, Result.andThen]

theorem heap_block (hb : b < w.heap.size) (o : Obj) : (setBlock w b o).heap[b]? = some o := by
  simp [setBlock, hb]
theorem heap_block_ne {c : Nat} (hc : c ≠ b) (o : Obj) : (setBlock w b o).heap[c]? = w.heap[c]? := by
  simp [setBlock, Array.getElem?_setIfInBounds_ne (Ne.symm hc)]

theorem MB.store (H : KF P K kf ok) (h : MB w b kf vf ok l) (ht : P.underlying T = some (.map K E)) (k : κ) (hk : ok k) (v : ν) :
    ∃ es clock, (Instr.mapUpdate T (.map (some b)) (kf k) (vf v)).run P w = .ok () (setBlock w b (.map es clock)) ∧ MB (setBlock w b (.map es clock)) b kf vf ok (putL l k v) := by
  have hlt := h.lt
  obtain ⟨es, clock, hb, m⟩ := h.out
  obtain ⟨lx, hlx⟩ := H.key k hk
  rcases m.find H w k hk with ⟨h1, h2⟩ | ⟨j, u, h1, h3, h2⟩
  · refine ⟨es.push ⟨kf k, vf v, clock⟩, clock + 1, ?_, ⟨_, _, heap_block hlt _, ?_⟩⟩
    · simp [Instr.mapUpdate, run_underlying ht, MapKept.run_getObj_map hb, H.law.check w _ hlx, h1, MapKept.run_setObj_map _ hb, Result.andThen, setBlock]
    · unfold putL
      rw [h2]
      have hn := getL_none.1 h2
      refine ⟨by simp [m.is], ?_, ?_, ?_, ?_⟩
      · intro e he
        simp only [Array.toList_push, List.mem_append, List.mem_singleton] at he
        rcases he with he | rfl
        · have := m.born e he; omega
        · simp
      · simp only [Array.toList_push, List.map_append, List.map_cons, List.map_nil]
        rw [List.nodup_append]
        refine ⟨m.apart, by simp, ?_⟩
        intro a ha c hc
        obtain ⟨e, he, rfl⟩ := List.mem_map.1 ha
        obtain rfl := List.mem_singleton.1 hc
        have := m.born e he; omega
      · simp only [Option.isSome_none, Bool.false_eq_true, if_false, List.map_append, List.map_cons, List.map_nil]
        rw [List.nodup_append]
        refine ⟨m.keys, by simp, ?_⟩
        intro a ha c hc
        obtain ⟨p, hp, rfl⟩ := List.mem_map.1 ha
        obtain rfl := List.mem_singleton.1 hc
        exact hn p hp
      · intro p hp
        simp only [Option.isSome_none, Bool.false_eq_true, if_false, List.mem_append, List.mem_singleton] at hp
        rcases hp with hp | rfl
        · exact m.ok p hp
        · exact hk
  · obtain ⟨e, he, hek, hev⟩ := m.at h3
    have hj := (Array.getElem?_eq_some_iff.1 he).1
    have hput : putL l k v = l.set j (k, v) := by
      unfold putL
      rw [h2]
      simp only [Option.isSome_some, if_true]
      apply List.ext_getElem?
      intro i
      rw [List.getElem?_map, List.getElem?_set]
      obtain ⟨hjl, hje⟩ := List.getElem?_eq_some_iff.1 h3
      by_cases hij : j = i
      · subst hij
        rw [if_pos rfl, if_pos hjl, h3]; simp
      · rw [if_neg hij]
        cases hi : l[i]? with
        | none => rfl
        | some p =>
          simp only [Option.map_some]
          rw [if_neg]
          intro e2
          obtain ⟨hil, hie⟩ := List.getElem?_eq_some_iff.1 hi
          have h4 : (l.map (·.1))[i]'(by simpa using hil) = (l.map (·.1))[j]'(by simpa using hjl) := by simp [hie, hje, e2]
          exact hij (nodup_inj m.keys _ _ h4).symm
    have hl2 : (es.modify j fun e => { e with key := kf k, val := vf v }).toList = es.toList.set j { e with key := kf k, val := vf v } := by
      rw [Array.toList_modify]
      apply List.ext_getElem?
      intro i
      rw [List.getElem?_modify, List.getElem?_set]
      by_cases hij : j = i
      · subst hij
        have : es.toList[j]? = some e := by simpa using he
        rw [this]; simp [hj]
      · cases es.toList[i]? <;> simp [hij]
    have hbn : (es.toList.set j { e with key := kf k, val := vf v }).map (·.born) = es.toList.map (·.born) := by
      rw [List.map_set]
      apply List.ext_getElem?
      intro i
      rw [List.getElem?_set]
      by_cases hij : j = i
      · subst hij
        rw [if_pos rfl, if_pos (by simpa using hj), List.getElem?_map, Array.getElem?_toList, he]; rfl
      · rw [if_neg hij]
    refine ⟨es.modify j fun e => { e with key := kf k, val := vf v }, clock, ?_, ⟨_, _, heap_block hlt _, ?_⟩⟩
    · have hs := H.law.stays w hlx
      simp [Instr.mapUpdate, run_underlying ht, MapKept.run_getObj_map hb, H.law.check w _ hlx, h1, he, hek, hs, MapKept.run_setObj_map _ hb, Result.andThen, setBlock]
    · rw [hput]
      refine ⟨?_, ?_, ?_, ?_, ?_⟩
      · rw [hl2, List.map_set, List.map_set, m.is]
      · rw [hl2]
        intro x hx
        have h5 : x.born ∈ (es.toList.set j { e with key := kf k, val := vf v }).map (·.born) := List.mem_map.2 ⟨x, hx, rfl⟩
        rw [hbn] at h5
        obtain ⟨y, hy, e3⟩ := List.mem_map.1 h5
        rw [← e3]; exact m.born y hy
      · rw [hl2, hbn]; exact m.apart
      · rw [List.map_set]
        have : (l.map (·.1)).set j k = l.map (·.1) := by
          apply List.ext_getElem?
          intro i
          rw [List.getElem?_set]
          by_cases hij : j = i
          · subst hij
            rw [if_pos rfl, List.getElem?_map, h3]
            simp [(List.getElem?_eq_some_iff.1 h3).1]
          · rw [if_neg hij]
        rw [this]; exact m.keys
      · intro p hp
        rcases List.mem_or_eq_of_mem_set hp with hp | rfl
        · exact m.ok p hp
        · exact hk

/-! ### A range over a map -/
omit [DecidableEq κ]
/-- Block r is an iterator over block b's map l; left: what is still to come. -/
structure MR (w : World) (b r : Nat) (kf : κ → Value) (vf : ν → Value) (ok : κ → Prop) (l left : List (κ × ν)) : Prop where
  out : ∃ es clock seen, w.heap[b]? = some (.map es clock) ∧ ME kf vf ok es clock l ∧ w.heap[r]? = some (.mapIter (some b) clock seen clock) ∧
    (leftOf es seen).toList.map (fun e => (e.key, e.val)) = left.map (fun p => (kf p.1, vf p.2))

variable {left : List (κ × ν)} {r : Nat}
theorem MR.lt (h : MR w b r kf vf ok l left) : b < w.heap.size ∧ r < w.heap.size := by
  obtain ⟨es, clock, seen, hb, _, hr, _⟩ := h.out
  exact ⟨(Array.getElem?_eq_some_iff.1 hb).1, (Array.getElem?_eq_some_iff.1 hr).1⟩
theorem MR.same (h : MR w b r kf vf ok l left) (e1 : w'.heap[b]? = w.heap[b]?) (e2 : w'.heap[r]? = w.heap[r]?) : MR w' b r kf vf ok l left := by
  obtain ⟨es, clock, seen, hb, hm, hr, hl⟩ := h.out
  exact ⟨es, clock, seen, e1.trans hb, hm, e2.trans hr, hl⟩
theorem MR.map (h : MR w b r kf vf ok l left) : MB w b kf vf ok l := by
  obtain ⟨es, clock, seen, hb, hm, _⟩ := h.out
  exact ⟨es, clock, hb, hm⟩

theorem MB.range (h : MB w b kf vf ok l) (ht : P.underlying T = some (.map K E)) :
    ∃ w', (Instr.range T (.map (some b))).run P w = .ok (.pointer (some ⟨w.heap.size, 0, none⟩)) w' ∧ MR w' b w.heap.size kf vf ok l l ∧ Below w.heap.size w w' ∧ w'.heap.size = w.heap.size + 1 := by
  have hlt := h.lt
  obtain ⟨es, clock, hb, m⟩ := h.out
  refine ⟨_, run_range_map w T K E b es clock ht hb, ⟨es, clock, #[], ((MapKept.heap_alloc w _).2 b hlt).trans hb, m, (MapKept.heap_alloc w _).1, ?_⟩, (Below.refl _ _).alloc (Nat.le_refl _) _, by simp⟩
  rw [← m.is]; unfold leftOf; rw [Array.toList_filter, List.filter_eq_self.2 (by simp)]

theorem map_split {α β : Type} {f : α → β} : ∀ {l : List α} {a c : List β} {x : β}, l.map f = a ++ x :: c → ∃ a' x' c', l = a' ++ x' :: c' ∧ a'.map f = a ∧ f x' = x ∧ c'.map f = c := by
  intro l a c x h
  obtain ⟨l1, l2, rfl, h1, h2⟩ := List.map_eq_append_iff.1 h
  obtain ⟨x', c', rfl, h3, h4⟩ := List.map_eq_cons_iff.1 h2
  exact ⟨l1, x', c', rfl, h1, h3, h4⟩

theorem filter_out {es : List MapEntry} (hn : (es.map (·.born)).Nodup) {a c : List MapEntry} {e : MapEntry} (h : es = a ++ e :: c) : es.filter (fun x => !(x.born == e.born)) = a ++ c := by
  subst h
  simp only [List.map_append, List.map_cons] at hn
  rw [List.nodup_append] at hn
  obtain ⟨_, h2, h3⟩ := hn
  obtain ⟨h4, _⟩ := List.nodup_cons.1 h2
  rw [List.filter_append, List.filter_cons]
  rw [List.filter_eq_self.2, List.filter_eq_self.2]
  · simp
  · intro x hx
    have : x.born ≠ e.born := fun e1 => h4 (e1 ▸ List.mem_map.2 ⟨x, hx, rfl⟩)
    simpa using this
  · intro x hx
    have : x.born ≠ e.born := h3 x.born (List.mem_map.2 ⟨x, hx, rfl⟩) e.born (by simp)
    simpa using this

theorem MR.next (h : MR w b r kf vf ok l left) (ty : TypeId) :
    (left = [] ∧ (Instr.next (.pointer (some ⟨r, 0, none⟩)) false ty).run P w = .ok (.tuple #[.bool false]) w) ∨
    ∃ a x c w', left = a ++ x :: c ∧ (Instr.next (.pointer (some ⟨r, 0, none⟩)) false ty).run P w = .ok (.tuple #[.bool true, kf x.1, vf x.2]) w' ∧ MR w' b r kf vf ok l (a ++ c) ∧
      w.grownBy w' (some r) ∧ w'.heap.size = w.heap.size ∧ (∃ o : Obj, w'.heap[r]? = some o ∧ o.isCells = false) ∧ (Instr.entry (.pointer (some ⟨r, 0, none⟩))).run P w' = .ok (.tuple #[kf x.1, vf x.2]) w' := by
  have hlt := h.lt
  obtain ⟨es, clock, seen, hb, m, hr, hl⟩ := h.out
  rcases run_next_at (P := P) w ty r b clock clock seen es clock hr hb m.born (Nat.le_refl _) with ⟨h0, hrun⟩ | ⟨e, he, w1, hal, hrun⟩
  · have := congrArg List.length hl
    simp [h0] at this
    exact .inl ⟨List.eq_nil_of_length_eq_zero this.symm, hrun⟩
  · obtain ⟨A, C, hAC⟩ := List.append_of_mem he
    have hl' := hl
    rw [hAC, List.map_append, List.map_cons] at hl'
    obtain ⟨a, x, c, rfl, h1, h2, h3⟩ := map_split hl'.symm
    have hrb : b ≠ r := fun e1 => by subst e1; rw [hb] at hr; cases hr
    have hem : e ∈ es.toList := by
      unfold leftOf at he; simp at he ⊢; exact he.1
    have hw : w1.heap = w.heap := by rcases hal with rfl | rfl <;> rfl
    have hr' : (setBlock w1 r (.mapIter (some b) clock (seen.push e.born) clock)).heap[r]? = some (.mapIter (some b) clock (seen.push e.born) clock) := heap_block (by rw [hw]; exact hlt.2) _
    have hb' : (setBlock w1 r (.mapIter (some b) clock (seen.push e.born) clock)).heap[b]? = some (.map es clock) := by rw [heap_block_ne hrb, hw]; exact hb
    refine .inr ⟨a, x, c, _, rfl, ?_, ⟨es, clock, seen.push e.born, hb', m, hr', ?_⟩, ?_, ?_, ⟨_, hr', rfl⟩, ?_⟩
    · rw [hrun]
      have : (kf x.1, vf x.2) = (e.key, e.val) := h2
      obtain ⟨h5, h6⟩ := Prod.mk.inj this
      rw [h5, h6]
    · have e1 : (leftOf es (seen.push e.born)).toList = (leftOf es seen).toList.filter (fun x => !(x.born == e.born)) := by
        unfold leftOf
        rw [Array.toList_filter, Array.toList_filter, List.filter_filter]
        congr 1
        funext y
        simp only [Array.contains_push, Bool.not_or]
        rw [Bool.and_comm]
      rw [e1, filter_out ?_ hAC, List.map_append, List.map_append, h1, h3]
      unfold leftOf
      rw [Array.toList_filter]
      exact (List.Sublist.map _ List.filter_sublist).nodup m.apart
    · rcases hal with rfl | rfl <;> exact ⟨rfl, rfl, rfl, by simp [setBlock], fun i _ hi => heap_block_ne (fun e1 => hi (by rw [e1])) _⟩
    · rcases hal with rfl | rfl <;> simp [setBlock]
    · have : (kf x.1, vf x.2) = (e.key, e.val) := h2
      obtain ⟨h5, h6⟩ := Prod.mk.inj this
      rw [h5, h6]
      exact run_entry_at _ r b clock seen es clock e hr' hb' hem m.apart
end Go.Proofs.Ytfjbodaakmapdaa.Kit

/-! ## Keys -/
namespace Go.Proofs.Ytfjbodaakmapdaa
open Go.RowKit Go.Shelf Th Kit
theorem types_102 : decide (102 < Try.prog.types.size) = true := by kernel_rfl
theorem keyed102 : Go.Maps.Keyed Try.prog 102 := Go.Maps.Keyed.of_law (deep_law_laid (by kernel_rfl) (m := 5) (by omega) (of_decide_eq_true types_102) (by kernel_rfl) (by kernel_rfl))
theorem types_92 : decide (92 < Try.prog.types.size) = true := by kernel_rfl
theorem keyed92 : Go.Maps.Keyed Try.prog 92 := Go.Maps.Keyed.of_law (deep_law_laid (by kernel_rfl) (m := 5) (by omega) (of_decide_eq_true types_92) (by kernel_rfl) (by kernel_rfl))
theorem kt102 : Try.prog.keyType 102 = true := by kernel_rfl
theorem kt92 : Try.prog.keyType 92 = true := by kernel_rfl
theorem types_sz : Try.prog.types.size = (Try.prog.types.size - 2) + 2 := by kernel_rfl
theorem cellsOf102 : Try.prog.cellsOf 102 = 2 := by kernel_rfl
theorem cellsOf92 : Try.prog.cellsOf 92 = 4 := by kernel_rfl
theorem cellsOf3 : Try.prog.cellsOf 3 = 1 := by kernel_rfl
theorem keyLits3 (d : Nat) (i : Int) (h : (Lit.int .i64 i).wf = true) : Try.prog.keyLits (d + 1) 3 [.int .i64 i] = some [.int .i64 i] := by
  simp [Program.keyLits, Try.underlying3, h]
theorem wf_small (i : Nat) (h : i < 100) : (Lit.int .i64 (i : Int)).wf = true := by
  exact WalkArith.wf_i64 (by omega)
theorem types_sz1 : ∃ m, Try.prog.types.size = m + 1 := ⟨Try.prog.types.size - 1, by kernel_rfl⟩
theorem key102 (i j : Nat) (hi : i < 100) (hj : j < 100) : ∃ l, keyOf Try.prog 102 (.agg #[.int .i64 i, .int .i64 j]) = some l := by
  obtain ⟨m, hm⟩ := types_sz1
  have h1 : Value.formed Try.prog 102 (.agg #[.int .i64 i, .int .i64 j]) = true := by
    simp [Value.formed, Try.underlying102, cellsOf102]
  unfold keyOf
  simp only [Try.underlying102]
  rw [if_pos (by rw [kt102, h1]; rfl), hm]
  unfold Program.keyLits
  simp only [Try.underlying102, Value.cells]
  rw [if_pos ⟨by rw [cellsOf102]; rfl, by kernel_rfl⟩]
  simp only [List.mapM_cons, List.mapM_nil, cellsOf3, List.drop_zero, List.drop_succ_cons, List.take_succ_cons, List.take_zero, keyLits3 m _ (wf_small i hi), keyLits3 m _ (wf_small j hj)]
  exact ⟨_, rfl⟩
theorem key92 (a b c d : Nat) (ha : a < 100) (hb : b < 100) (hc : c < 100) (hd : d < 100) : ∃ l, keyOf Try.prog 92 (.agg #[.int .i64 a, .int .i64 b, .int .i64 c, .int .i64 d]) = some l := by
  obtain ⟨m, hm⟩ := types_sz1
  have h1 : Value.formed Try.prog 92 (.agg #[.int .i64 a, .int .i64 b, .int .i64 c, .int .i64 d]) = true := by
    simp [Value.formed, Try.underlying92, cellsOf92]
  unfold keyOf
  simp only [Try.underlying92]
  rw [if_pos (by rw [kt92, h1]; rfl), hm]
  unfold Program.keyLits
  simp only [Try.underlying92, Value.cells]
  rw [if_pos (by rw [cellsOf92]; rfl), show List.range 4 = [0, 1, 2, 3] from rfl]
  simp only [List.mapM_cons, List.mapM_nil, cellsOf3, Nat.reduceMul, List.drop_zero, List.drop_succ_cons, List.take_succ_cons, List.take_zero, keyLits3 m _ (wf_small a ha), keyLits3 m _ (wf_small b hb), keyLits3 m _ (wf_small c hc), keyLits3 m _ (wf_small d hd)]
  exact ⟨_, rfl⟩

abbrev Pr := Nat × Nat
def pairV (p : Pr) : Value := .agg #[.int .i64 p.1, .int .i64 p.2]
def okP (p : Pr) : Prop := p.1 < 100 ∧ p.2 < 100
theorem kfPair : KF Try.prog 102 pairV okP where
  law := keyed102
  key p h := key102 p.1 p.2 h.1 h.2
  inj p q h := by
    obtain ⟨a, b⟩ := p
    obtain ⟨c, d⟩ := q
    simp only [pairV, Value.agg.injEq, Array.mk.injEq, List.cons.injEq, Value.int.injEq, true_and, and_true] at h
    exact Prod.ext (by simp only; omega) (by simp only; omega)

structure Mk where
  a : Nat
  b : Nat
  c : Nat
  d : Nat
deriving DecidableEq
def markV (m : Mk) : Value := .agg #[.int .i64 m.a, .int .i64 m.b, .int .i64 m.c, .int .i64 m.d]
def okM (m : Mk) : Prop := m.a < 100 ∧ m.b < 100 ∧ m.c < 100 ∧ m.d < 100
theorem kfMark : KF Try.prog 92 markV okM where
  law := keyed92
  key m h := key92 m.a m.b m.c m.d h.1 h.2.1 h.2.2.1 h.2.2.2
  inj p q h := by
    obtain ⟨a, b, c, d⟩ := p
    obtain ⟨a', b', c', d'⟩ := q
    simp only [markV, Value.agg.injEq, Array.mk.injEq, List.cons.injEq, Value.int.injEq, true_and, and_true] at h
    obtain ⟨h1, h2, h3, h4⟩ := h
    simp only [Mk.mk.injEq]
    omega
end Go.Proofs.Ytfjbodaakmapdaa

/-! ## Dif -/
namespace Go.Proofs.Ytfjbodaakmapdaa
open Go.RowKit Th Kit

/-- What a step of the search gives: the word found, or the queue. -/
inductive Rs where
  | fin (w : List Nat)
  | go (Q : List (Pr × List Nat))

def dstep (x y : List Nat) (p : Pr) (wd : List Nat) (Q : List (Pr × List Nat)) (c : Nat) : Rs :=
  if decide (nx x c p.1 < x.length) ≠ decide (nx y c p.2 < y.length) then .fin (wd ++ [97 + c])
  else if nx x c p.1 < x.length ∧ (nx x c p.1 + 1, nx y c p.2 + 1) ∉ Q.map (·.1) then .go (Q ++ [((nx x c p.1 + 1, nx y c p.2 + 1), wd ++ [97 + c])]) else .go Q
def drun (x y : List Nat) (p : Pr) (wd : List Nat) : List Nat → List (Pr × List Nat) → Rs
  | [], Q => .go Q
  | c :: cs, Q => match dstep x y p wd Q c with
    | .fin w => .fin w
    | .go Q' => drun x y p wd cs Q'
def dbfs (x y : List Nat) : Nat → Nat → List (Pr × List Nat) → List Nat
  | 0, _, _ => []
  | f + 1, at', Q => match Q[at']? with
    | none => []
    | some (p, wd) => match drun x y p wd [0, 1, 2, 3] Q with
      | .fin w => w
      | .go Q' => dbfs x y f (at' + 1) Q'

theorem drun_append (x y : List Nat) (p : Pr) (wd : List Nat) : ∀ (a b : List Nat) (Q : List (Pr × List Nat)), drun x y p wd (a ++ b) Q = match drun x y p wd a Q with | .fin w => .fin w | .go Q' => drun x y p wd b Q'
  | [], _, _ => rfl
  | c :: a, b, Q => by
    rw [List.cons_append, drun, drun]
    cases dstep x y p wd Q c with
    | fin w => rfl
    | go Q' => exact drun_append x y p wd a b Q'

/-- The queue: distinct pairs; each but the first was reached from an earlier one by a letter. -/
structure DQ (x y : List Nat) (Q : List (Pr × List Nat)) : Prop where
  head : Q[0]? = some ((0, 0), [])
  apart : (Q.map (·.1)).Nodup
  inX : ∀ e ∈ Q, e.1.1 ≤ x.length ∧ e.1.2 ≤ y.length
  len : ∀ e ∈ Q, e.2.length ≤ e.1.1 ∧ e.2.length ≤ e.1.2
  pos : ∀ i p wd, Q[i + 1]? = some (p, wd) → 1 ≤ p.1 ∧ 1 ≤ p.2

/-- Where each pair of the queue but the first came from. -/
structure DF (Q : List (Pr × List Nat)) (F : List (Pr × (Pr × ByteArray))) : Prop where
  len : F.length + 1 = Q.length
  from_ : ∀ i p wd, Q[i + 1]? = some (p, wd) → ∃ (pp : Pr) (j : Nat) (wd' : List Nat) (c : Fin 4), F[i]? = some (p, (pp, str [97 + c.val])) ∧ j ≤ i ∧ Q[j]? = some (pp, wd') ∧ wd = wd' ++ [97 + c.val]

theorem DQ.first (x y : List Nat) : DQ x y [((0, 0), [])] :=
  ⟨rfl, by simp, by simp, by simp, fun i p wd h => by simp at h⟩
theorem DF.first : DF [((0, 0), [])] [] := ⟨rfl, fun i p wd h => by simp at h⟩

theorem DQ.ne {x y : List Nat} {Q : List (Pr × List Nat)} (h : DQ x y Q) : 0 < Q.length := (List.getElem?_eq_some_iff.1 h.head).1

theorem DQ.push {x y : List Nat} {Q : List (Pr × List Nat)} (h : DQ x y Q) {i : Nat} {p : Pr} {wd : List Nat} {c : Nat} (hi : Q[i]? = some (p, wd)) (h1 : nx x c p.1 < x.length) (h2 : nx y c p.2 < y.length)
    (hn : (nx x c p.1 + 1, nx y c p.2 + 1) ∉ Q.map (·.1)) : DQ x y (Q ++ [((nx x c p.1 + 1, nx y c p.2 + 1), wd ++ [97 + c])]) := by
  have hp := List.mem_of_getElem? hi
  have hg1 := nx_ge x c p.1
  have hg2 := nx_ge y c p.2
  have hl := h.len _ hp
  simp only at hl
  refine ⟨?_, ?_, ?_, ?_, ?_⟩
  · rw [List.getElem?_append_left h.ne]; exact h.head
  · rw [List.map_append, List.nodup_append]
    refine ⟨h.apart, by simp, ?_⟩
    intro a ha b hb
    simp only [List.map_cons, List.map_nil, List.mem_singleton] at hb
    subst hb
    exact fun e => hn (e ▸ ha)
  · intro e he
    rcases List.mem_append.1 he with he | he
    · exact h.inX e he
    · obtain rfl := List.mem_singleton.1 he
      simp only; omega
  · intro e he
    rcases List.mem_append.1 he with he | he
    · exact h.len e he
    · obtain rfl := List.mem_singleton.1 he
      simp only [List.length_append, List.length_cons, List.length_nil]; omega
  · intro j q w hj
    by_cases hlt : j + 1 < Q.length
    · rw [List.getElem?_append_left hlt] at hj; exact h.pos j q w hj
    · rw [List.getElem?_append_right (by omega)] at hj
      obtain ⟨_, hm⟩ := List.mem_of_getElem? hj |> List.mem_singleton.1 |> Prod.mk.inj |> fun e => (⟨e.2, e.1⟩ : _ ∧ _)
      subst hm
      simp only; omega

theorem DF.push {Q : List (Pr × List Nat)} {F : List (Pr × (Pr × ByteArray))} (h : DF Q F) {i : Nat} {p q : Pr} {wd : List Nat} {c : Fin 4} (hi : Q[i]? = some (p, wd)) :
    DF (Q ++ [(q, wd ++ [97 + c.val])]) (F ++ [(q, (p, str [97 + c.val]))]) := by
  have hl := h.len
  have hil := (List.getElem?_eq_some_iff.1 hi).1
  refine ⟨by simp; omega, fun k q' w hk => ?_⟩
  by_cases hlt : k + 1 < Q.length
  · rw [List.getElem?_append_left hlt] at hk
    obtain ⟨pp, j, wd', c', h1, h2, h3, h4⟩ := h.from_ k q' w hk
    exact ⟨pp, j, wd', c', by rw [List.getElem?_append_left (by omega)]; exact h1, h2, by rw [List.getElem?_append_left (by omega)]; exact h3, h4⟩
  · rw [List.getElem?_append_right (by omega)] at hk
    have hk2 : k + 1 - Q.length = 0 := by
      have := (List.getElem?_eq_some_iff.1 hk).1
      simp at this; omega
    rw [hk2] at hk
    simp only [List.getElem?_cons_zero, Option.some.injEq, Prod.mk.injEq] at hk
    obtain ⟨rfl, rfl⟩ := hk
    exact ⟨p, i, wd, c, by rw [List.getElem?_append_right (by omega), show k - F.length = 0 by omega]; rfl, by omega, by rw [List.getElem?_append_left hil]; exact hi, rfl⟩

/-- What is known is what stands in the queue behind its head. -/
theorem DF.keys {Q : List (Pr × List Nat)} {F : List (Pr × (Pr × ByteArray))} (h : DF Q F) (i : Nat) : (F.map (·.1))[i]? = (Q.map (·.1))[i + 1]? := by
  rw [List.getElem?_map, List.getElem?_map]
  by_cases hlt : i < F.length
  · obtain ⟨q, hq⟩ : ∃ q, Q[i + 1]? = some q := ⟨_, List.getElem?_eq_getElem (by have := h.len; omega)⟩
    obtain ⟨p, wd⟩ := q
    obtain ⟨pp, j, wd', c, h1, _⟩ := h.from_ i p wd hq
    rw [h1, hq]; rfl
  · rw [List.getElem?_eq_none (by omega), List.getElem?_eq_none (by have := h.len; omega)]; rfl
theorem DF.tail {Q : List (Pr × List Nat)} {F : List (Pr × (Pr × ByteArray))} (h : DF Q F) : F.map (·.1) = (Q.map (·.1)).tail := by
  apply List.ext_getElem?
  intro i
  rw [h.keys, List.getElem?_tail]

theorem DF.known {x y : List Nat} {Q : List (Pr × List Nat)} {F : List (Pr × (Pr × ByteArray))} (h : DF Q F) (hq : DQ x y Q) (p : Pr) (hp : 1 ≤ p.1) : (getL F p).isSome = decide (p ∈ Q.map (·.1)) := by
  have h0 : Q.map (·.1) = (0, 0) :: F.map (·.1) := by
    rw [h.tail]
    have := hq.head
    cases hQ : Q with
    | nil => rw [hQ] at this; cases this
    | cons a Q' =>
      rw [hQ] at this
      simp only [List.getElem?_cons_zero, Option.some.injEq] at this
      subst this; rfl
  rw [h0]
  cases hg : getL F p with
  | none =>
    have := getL_none.1 hg
    simp only [Option.isSome_none]
    symm
    rw [decide_eq_false_iff_not]
    intro hm
    rcases List.mem_cons.1 hm with rfl | hm
    · simp at hp
    · obtain ⟨e, he, h1⟩ := List.mem_map.1 hm
      exact this e he h1
  | some v =>
    simp only [Option.isSome_some]
    symm
    rw [decide_eq_true_iff]
    unfold getL at hg
    obtain ⟨e, he, _⟩ := Option.map_eq_some_iff.1 hg
    have h1 := List.mem_of_find?_eq_some he
    have h2 := List.find?_some he
    simp only [decide_eq_true_eq] at h2
    exact List.mem_cons_of_mem _ (List.mem_map.2 ⟨e, h1, h2⟩)

theorem nodup_lt : ∀ (N : Nat) (l : List Nat), l.Nodup → (∀ a ∈ l, a < N) → l.length ≤ N
  | 0, l, _, h => by
    cases l with
    | nil => simp
    | cons a l => have := h a (by simp); omega
  | N + 1, l, hn, h => by
    by_cases hm : N ∈ l
    · have h1 := nodup_lt N (l.erase N) (hn.erase N) (fun a ha => by
        have h2 := (List.Nodup.mem_erase_iff hn).1 ha
        have h3 := h a h2.2
        have h4 := h2.1
        omega)
      rw [List.length_erase_of_mem hm] at h1
      omega
    · have := nodup_lt N l hn (fun a ha => by
        have h3 := h a ha
        have : a ≠ N := fun e => hm (e ▸ ha)
        omega)
      omega
/-- How many pairs there may be. -/
theorem pairs_le (n m : Nat) (l : List Pr) (hn : l.Nodup) (hb : ∀ p ∈ l, p.1 ≤ n ∧ p.2 ≤ m) : l.length ≤ (n + 1) * (m + 1) := by
  have h1 : (l.map fun p => p.1 * (m + 1) + p.2).Nodup := by
    unfold List.Nodup
    rw [List.pairwise_map]
    refine hn.imp_of_mem fun {a b} ha hb' hab e => hab ?_
    obtain ⟨a1, a2⟩ := a
    obtain ⟨b1, b2⟩ := b
    have h2 := (hb _ ha).2
    have h3 := (hb _ hb').2
    simp only at h2 h3 e
    have h4 : a1 = b1 := by
      have e1 : (a1 * (m + 1) + a2) / (m + 1) = a1 := by
        rw [Nat.mul_comm, Nat.mul_add_div (by omega), Nat.div_eq_of_lt (by omega), Nat.add_zero]
      have e2 : (b1 * (m + 1) + b2) / (m + 1) = b1 := by
        rw [Nat.mul_comm, Nat.mul_add_div (by omega), Nat.div_eq_of_lt (by omega), Nat.add_zero]
      rw [← e1, ← e2, e]
    subst h4
    simp only [Prod.mk.injEq, true_and]; omega
  have h2 := nodup_lt ((n + 1) * (m + 1)) _ h1 (fun a ha => by
    obtain ⟨p, hp, rfl⟩ := List.mem_map.1 ha
    obtain ⟨h3, h4⟩ := hb p hp
    have : p.1 * (m + 1) ≤ n * (m + 1) := Nat.mul_le_mul_right _ h3
    rw [Nat.succ_mul]; omega)
  rwa [List.length_map] at h2
theorem DQ.size {x y : List Nat} {Q : List (Pr × List Nat)} (h : DQ x y Q) (hx : x.length ≤ 60) (hy : y.length ≤ 60) : Q.length ≤ 3721 := by
  have := pairs_le 60 60 (Q.map (·.1)) h.apart (fun p hp => by
    obtain ⟨e, he, rfl⟩ := List.mem_map.1 hp
    have := h.inX e he
    omega)
  simpa using this
end Go.Proofs.Ytfjbodaakmapdaa

/-! ## DifW -/
namespace Go.Proofs.Ytfjbodaakmapdaa
open Go.RowKit Go.Shelf Th Kit Go.Proofs.YtfjbodaakmapdaaW.PrintWords
open Go.ChangeMaps (setBlock)
attribute [local go_sem] Oper.semAt_some

/-! ### A look-up and a store at the operation, inside a fence -/
section
variable {κ ν : Type} [DecidableEq κ] {F : Fence} {nF : Nat} {P : Program} {w : World} {ops : Array Oper} {rest : List Oper} {o : Oper} {a : Act} {Q : Exit → Act → World → Prop} {K E : TypeId} {kf : κ → Value} {vf : ν → Value} {ok : κ → Prop} {b : Nat} {l : List (κ × ν)}
theorem wpListIn_look (hg : o.guard = none) (m x : Operand) (t : TypeId) (c : Bool) (hop : o.op = Op.lookup t m x c) (H : KF P K kf ok) (h : MB w b kf vf ok l) (ht : P.underlying t = some (.map K E)) {z : Value} (hz : (zeroValue E).run P w = .ok z w)
    (k : κ) (hk : ok k) (hm : a.eval m = .map (some b)) (hx : a.eval x = kf k)
    (hK : wpListIn F nF P ops Q rest (a.put o.dst (if c then .tuple #[((getL l k).map vf).getD z, .bool (getL l k).isSome] else ((getL l k).map vf).getD z)) w) : wpListIn F nF P ops Q (o :: rest) a w := by
  refine wpListIn_plain hg fun K' hK' => ?_
  have hrun := h.look H ht hz k hk c
  unfold Oper.wpIn
  refine ⟨by simp [Oper.about, hop], ?_⟩
  rw [Oper.semAt_plain F _ _ (by rw [hop]; intro c hc'; cases hc')]
  simp only [execOp, hop, hm, hx, Sem.run_bind, Sem.run_pure, hrun, Result.andThen_ok]
  exact hK' _ _ hK
theorem wpListIn_mapset (hg : o.guard = none) (m x v : Operand) (t : TypeId) (hop : o.op = Op.mapUpdate t m x v) (H : KF P K kf ok) (h : MB w b kf vf ok l) (ht : P.underlying t = some (.map K E))
    (k : κ) (hk : ok k) (u : ν) (hm : a.eval m = .map (some b)) (hx : a.eval x = kf k) (hv : a.eval v = vf u)
    (hK : ∀ es clock, MB (setBlock w b (.map es clock)) b kf vf ok (putL l k u) → wpListIn F nF P ops Q rest (a.put o.dst undef) (setBlock w b (.map es clock))) : wpListIn F nF P ops Q (o :: rest) a w := by
  refine wpListIn_plain hg fun K' hK' => ?_
  obtain ⟨es, clock, hrun, hm2⟩ := h.store H ht k hk u
  unfold Oper.wpIn
  refine ⟨by simp [Oper.about, hop], ?_⟩
  rw [Oper.semAt_plain F _ _ (by rw [hop]; intro c hc'; cases hc')]
  simp only [execOp, hop, hm, hx, hv, Sem.run_bind, Sem.run_pure, hrun, Result.andThen_ok]
  exact hK' _ _ (hK es clock hm2)
end

theorem grown_setBlock (w : World) (b : Nat) (o : Obj) : w.grownBy (setBlock w b o) (some b) :=
  ⟨rfl, rfl, rfl, by simp [setBlock], fun i _ hi => heap_block_ne (fun e => hi (by rw [e])) _⟩
theorem grown_setCell (w : World) (p : Addr) (v : Value) : w.grownBy (w.setCell p v) (some p.block) :=
  ⟨rfl, rfl, rfl, by simp, fun i _ hi => Below.heap_setCell w p v i (fun e => hi (by rw [e]))⟩
theorem grown_drewN (w : World) (k : Nat) : w.grownBy (w.drewN k) none := ⟨rfl, rfl, rfl, Nat.le_refl _, fun _ _ _ => rfl⟩

def stepV (v : Pr × ByteArray) : Value := .agg #[.int .i64 v.1.1, .int .i64 v.1.2, .string v.2]
def flatQ (Q : List (Pr × List Nat)) : List Value := Q.flatMap fun e => [.int .i64 e.1.1, .int .i64 e.1.2]

theorem own_kind {w : World} {B : Nat} {e : TypeId} {size k : Nat} {v : Value} {xs : List Value} (h : w.ownsRow B e size v k xs) (g : Nat) (hg : v.ownBlock = some g) : ∃ c fz, w.heap[g]? = some (.cells c e fz) := by
  rcases h.2 with ⟨rfl, _⟩ | ⟨g', cap, cur, rfl, _, hh, _⟩
  · cases hg
  · have : g' = g := by simpa [Value.ownBlock] using hg
    subst this
    exact ⟨_, _, hh⟩
theorem own_form {w : World} {B : Nat} {e : TypeId} {size k : Nat} {v : Value} {xs : List Value} (h : w.ownsRow B e size v k xs) (hk : 0 < k) : ∃ g cap, v = .slice (some ⟨g, 0, none⟩) k cap := by
  rcases h.2 with ⟨_, rfl⟩ | ⟨g', cap, cur, rfl, _⟩
  · omega
  · exact ⟨_, _, rfl⟩

theorem leaves_marks2 {F : Fence} {n : Nat} {P : Program} {fn : Func} {tmps : Array Value} {R : Ending → World → Prop} {v : Value} {B : Nat} : ∀ (ds : List Deferred) (w : World) (top : Nat),
    Marks B w ds top → (∀ w', Below B w w' → (results fn tmps).run P w' = .ok v w') → (∀ w', Below B w w' → R (.returned v) w') → LeavesInM F n P fn tmps R ds .returning w
  | [], w, _, _, hr, hR => ⟨v, hr w (Below.refl _ _), hR w (Below.refl _ _)⟩
  | _ :: ds, w, _, ⟨D, e, h1, _, h3, h4⟩, hr, hR => by
    subst e
    exact ⟨by simp, .inl ⟨D, _, rfl, run_takeDeferred h3, leaves_marks2 ds _ D h4.put (fun w' hb => hr w' ((below_put h1 w _).trans hb)) fun w' hb => hR w' ((below_put h1 w _).trans hb)⟩⟩
theorem results_cell_string {fn : Func} {p : Tmp} (h : fn.results = #[.cell p 9]) (tmps : Array Value) (w : World) (b : Nat) (s : ByteArray) (hp : tmps.getD p undef = .pointer (some ⟨b, 0, none⟩)) (hb : Blk w b #[.string s] 9) :
    (results fn tmps).run Try.prog w = .ok (.string s) w := by
  have hp' : tmps[p]?.getD undef = .pointer (some ⟨b, 0, none⟩) := by simpa using hp
  have hc := hb.cell 0
  simp only [List.getElem?_toArray, List.getElem?_cons_zero] at hc
  simp [results, h, hp', asAddr, loadVar, hc, go_sem]
theorem Kit.Marks.from_ {B : Nat} {w w' : World} {ds : List Deferred} {top : Nat} (h : Marks B w ds top) (hk : KeepsFrom B w w') : Marks B w' ds top := h.imp fun D h1 _ h3 => hk.same D _ h1 h3 rfl

/-- differ's memory: the boxes of its words, its result, its map and its queue; n: where the first of them lies. -/
structure DS (n bx by' : Nat) (s t : ByteArray) (W : World) (Q : List (Pr × List Nat)) (F : List (Pr × (Pr × ByteArray))) (qv : Value) : Prop where
  h2 : Blk W n #[.pointer (some ⟨bx, 0, none⟩)] 67
  h3 : Blk W (n + 1) #[.pointer (some ⟨by', 0, none⟩)] 67
  h4 : Blk W (n + 2) #[.string ⟨#[]⟩] 9
  h5 : Blk W (n + 4) #[.map (some (n + 3))] 100
  h6 : Blk W (n + 6) #[qv] 103
  hm : MB W (n + 3) pairV stepV okP F
  hq : W.ownsRow (n + 5) 102 2 qv Q.length (flatQ Q)
  hx : IsWord W bx s
  hy : IsWord W by' t
theorem DS.grown {n bx by' : Nat} {s t : ByteArray} {W W' : World} {Q : List (Pr × List Nat)} {F : List (Pr × (Pr × ByteArray))} {qv : Value} {row : Option Nat} (h : DS n bx by' s t W Q F qv) (hbx : bx < n) (hby : by' < n)
    (hg : W.grownBy W' row) (hr : ∀ r, row = some r → n + 7 ≤ r ∧ qv.ownBlock ≠ some r) : DS n bx by' s t W' Q F qv := by
  have hne : ∀ b, b < n + 7 → some b ≠ row := fun b hb e => by have := (hr b e.symm).1; omega
  refine ⟨h.h2.grown hg (hne _ (by omega)), h.h3.grown hg (hne _ (by omega)), h.h4.grown hg (hne _ (by omega)), h.h5.grown hg (hne _ (by omega)), h.h6.grown hg (hne _ (by omega)), h.hm.grown hg (hne _ (by omega)), h.hq.kept hg ?_, h.hx.grown hg (hne _ (by omega)), h.hy.grown hg (hne _ (by omega))⟩
  cases row with
  | none => cases hb : qv.ownBlock with
    | none => exact .inl rfl
    | some k => exact .inr (by simp)
  | some r => exact .inr (hr r rfl).2
/-- An iterator's own block turns. -/
theorem DS.turn {n bx by' B : Nat} {s t : ByteArray} {W W' : World} {Q : List (Pr × List Nat)} {F : List (Pr × (Pr × ByteArray))} {qv : Value} {row : Option Nat} (h : DS n bx by' s t W Q F qv) (hbx : bx < n) (hby : by' < n) (hB : n + 7 ≤ B)
    (hg : W.grownBy W' row) (hr : Turn B W row) : DS n bx by' s t W' Q F qv := by
  refine h.grown hbx hby hg fun r e => ?_
  obtain ⟨h1, o, ho, hc⟩ := hr r e
  refine ⟨by omega, fun e2 => ?_⟩
  obtain ⟨c, fz, hcells⟩ := own_kind h.hq r e2
  rw [hcells] at ho
  cases ho
  cases hc

theorem flatQ_at : ∀ {Q : List (Pr × List Nat)} {k : Nat} {p : Pr} {wd : List Nat}, Q[k]? = some (p, wd) → (flatQ Q)[k * 2]? = some (.int .i64 p.1) ∧ (flatQ Q)[k * 2 + 1]? = some (.int .i64 p.2)
  | [], k, p, wd, h => by simp at h
  | e :: Q, 0, p, wd, h => by
    simp only [List.getElem?_cons_zero, Option.some.injEq] at h
    subst h
    exact ⟨rfl, rfl⟩
  | e :: Q, k + 1, p, wd, h => by
    have := flatQ_at (Q := Q) (k := k) (by simpa using h)
    rw [show (k + 1) * 2 = k * 2 + 2 by omega]
    exact this

theorem keepsFrom_turn {B : Nat} {W2 A C : World} {row : Option Nat} (h : KeepsFrom B W2 A) (hg : A.grownBy C row) (hr : Turn W2.heap.size A row) : KeepsFrom B W2 C :=
  ⟨Nat.le_trans h.size hg.size, fun k o hk hko hc => by
    have hlt := (Array.getElem?_eq_some_iff.1 hko).1
    have h1 := h.same k o hk hko hc
    exact (hg.block k (Array.getElem?_eq_some_iff.1 h1).1 (fun e => by have := (hr k e.symm).1; omega)).trans h1⟩
theorem after_at (b : Nat) (s : ByteArray) (i c : Int) (i' c' a : Nat) (r : Bool) (w : World) (hw : IsWord w b s) (h60 : s.size ≤ 60) (hi : i = i') (hc : c = c') (hi' : i' ≤ s.size) (hc' : c' < 4)
    (hr : decide (nx (bl s) c' i' < s.size) = r) (ha : a = nx (bl s) c' i' + 1) :
    Calls Try.prog 47 #[.pointer (some ⟨b, 0, none⟩), .int .i64 i, .int .i64 c] w fun e w' => e = .returned (.tuple #[.int .i64 (a : Int), .bool r]) ∧ ∃ n, w' = w.drewN n := by
  rw [ha]
  refine (after_any b s i c i' c' r w hw h60 hi hc hi' hc' hr).mono fun e w' h => ?_
  obtain ⟨h1, h2⟩ := h
  exact ⟨by rw [h1]; simp, h2⟩
def strLen (v : Value) : Nat := match v with
  | .string s => s.size
  | _ => 0
theorem ChangeKeysEq_run {P : Program} {t : TypeId} {i : TypeInfo} (h : P.info? t = some i) (w : World) : (typeInfo t).run P w = .ok i w := by
  simp [typeInfo, h]
theorem run_zero {P : Program} {t : TypeId} {z : Value} (h : (P.info? t).map (·.zero) = some (some z)) (w : World) : (zeroValue t).run P w = .ok z w := by
  cases hi : P.info? t with
  | none => rw [hi] at h; cases h
  | some i =>
    rw [hi] at h
    simp only [Option.map_some, Option.some.injEq] at h
    simp only [zeroValue, Sem.run_bind, ChangeKeysEq_run hi w, Result.andThen_ok, h]; rfl
theorem zero105 (w : World) : (zeroValue 105).run Try.prog w = .ok (stepV ((0, 0), ⟨#[]⟩)) w := run_zero (by kernel_rfl) w

/-- Within the letters of one round. b8: where the pair lies. -/
structure DI (n b8 bx by' : Nat) (s t : ByteArray) (p : Pr) (wd : List Nat) (Q : List (Pr × List Nat)) (at' : Nat) (W2 : World) (pr : List (Fin 4)) (W : World) (Q' : List (Pr × List Nat)) (F' : List (Pr × (Pr × ByteArray))) (qv' : Value) : Prop where
  run : drun (bl s) (bl t) p wd (pr.map (·.val)) Q = .go Q'
  dq : DQ (bl s) (bl t) Q'
  df : DF Q' F'
  here : Q'[at']? = some (p, wd)
  ds : DS n bx by' s t W Q' F' qv'
  pair : Blk W b8 #[.int .i64 p.1, .int .i64 p.2] 102
  ne : qv'.ownBlock ≠ some b8
  keeps : KeepsFrom (n + 7) W2 W
  below : Below n W2 W

theorem KeepsFrom.mono_ {B B' : Nat} {W W' : World} (h : KeepsFrom B W W') (hB : B ≤ B') : KeepsFrom B' W W' := ⟨h.size, fun k o hk => h.same k o (Nat.le_trans hB hk)⟩
theorem fld1 (a b : Int) (s : ByteArray) (w : World) : (Instr.field 105 (.agg #[.int .i64 a, .int .i64 b, .string s]) 1).run Try.prog w = .ok (.string s) w := by
  simp [Instr.field, run_underlying Try.underlying105, go_sem, asAgg]
theorem fld0 (a b : Int) (s : ByteArray) (w : World) : (Instr.field 105 (.agg #[.int .i64 a, .int .i64 b, .string s]) 0).run Try.prog w = .ok (.agg #[.int .i64 a, .int .i64 b]) w := by
  simp [Instr.field, run_underlying Try.underlying105, go_sem, asAgg]
theorem info102 : (Try.prog.info? 102).map (fun i => (i.zero, i.size, i.bytes)) = some (some (.agg #[.int .i64 0, .int .i64 0]), 2, 16) := by kernel_rfl
theorem drun_snoc {x y : List Nat} {p : Pr} {wd a : List Nat} {Q Q' : List (Pr × List Nat)} (c : Nat) (h : drun x y p wd a Q = .go Q') : drun x y p wd (a ++ [c]) Q = dstep x y p wd Q' c := by
  rw [drun_append, h]
  simp only [drun]
  cases dstep x y p wd Q' c <;> rfl
theorem own_ne_small {W : World} {B e size k b t : Nat} {v : Value} {xs : List Value} {cs : Array Value} (h : W.ownsRow B e size v k xs) (hb : Blk W b cs t) (hc : cs.size < k * size) : v.ownBlock ≠ some b := by
  intro e1
  rcases h.2 with ⟨rfl, _⟩ | ⟨g, cap, cur, rfl, _, hh, h1, _, h2, _⟩
  · cases e1
  · have : g = b := by simpa [Value.ownBlock] using e1
    subst this
    rw [hb.out] at hh
    have h3 : cs = cur := by simpa using (Obj.cells.inj (Option.some.inj hh)).1
    subst h3
    have := Nat.mul_le_mul_right size h1
    omega
theorem own_ne_type {W : World} {B e size k b t : Nat} {v : Value} {xs : List Value} {cs : Array Value} (h : W.ownsRow B e size v k xs) (hb : Blk W b cs t) (hc : t ≠ e) : v.ownBlock ≠ some b := by
  intro e1
  obtain ⟨c, fz, h1⟩ := own_kind h b e1
  rw [hb.out] at h1
  exact hc (Obj.cells.inj (Option.some.inj h1)).2.1
theorem DS.putMap {n bx by' : Nat} {s t : ByteArray} {W : World} {Q : List (Pr × List Nat)} {F F2 : List (Pr × (Pr × ByteArray))} {qv : Value} {o : Obj} (h : DS n bx by' s t W Q F qv) (hbx : bx < n) (hby : by' < n)
    (hm : MB (setBlock W (n + 3) o) (n + 3) pairV stepV okP F2) : DS n bx by' s t (setBlock W (n + 3) o) Q F2 qv := by
  have hg := grown_setBlock W (n + 3) o
  have hne : ∀ b, b ≠ n + 3 → some b ≠ some (n + 3) := fun b hb e => hb (Option.some.inj e)
  refine ⟨h.h2.grown hg (hne _ (by omega)), h.h3.grown hg (hne _ (by omega)), h.h4.grown hg (hne _ (by omega)), h.h5.grown hg (hne _ (by omega)), h.h6.grown hg (hne _ (by omega)), hm, h.hq.kept hg (.inr ?_), h.hx.grown hg (hne _ (by omega)), h.hy.grown hg (hne _ (by omega))⟩
  intro e
  have := (h.hq.lt (n + 3) e).1
  omega
theorem DS.push {n bx by' g cap : Nat} {s t : ByteArray} {W W' : World} {Q : List (Pr × List Nat)} {F : List (Pr × (Pr × ByteArray))} {v' : Value} (h : DS n bx by' s t W Q F (.slice (some ⟨g, 0, none⟩) Q.length cap)) (hbx : bx < n) (hby : by' < n)
    (hg : W.grownBy W' (some g)) (e : Pr × List Nat) (ho : W'.ownsRow (n + 5) 102 2 v' (Q.length + 1) (flatQ Q ++ [.int .i64 e.1.1, .int .i64 e.1.2])) : DS n bx by' s t (W'.setCell ⟨n + 6, 0, none⟩ v') (Q ++ [e]) F v' := by
  have h1 := (h.hq.lt g rfl).1
  have h2 := own_ne_type h.hq h.h6 (by omega)
  have hne : ∀ b, b < n + 5 ∨ b = n + 6 → some b ≠ some g := fun b hb e => by
    cases e
    rcases hb with hb | hb
    · omega
    · subst hb; exact h2 rfl
  have h6 := h.h6.grown hg (hne _ (.inr rfl))
  have h3 := own_ne_type ho h6 (by omega)
  have ho2 := ho.kept (grown_setCell W' ⟨n + 6, 0, none⟩ v') (.inr h3)
  refine ⟨(h.h2.grown hg (hne _ (by omega))).other _ (by simp) _, (h.h3.grown hg (hne _ (by omega))).other _ (by simp) _, (h.h4.grown hg (hne _ (by omega))).other _ (by simp) _, (h.h5.grown hg (hne _ (by omega))).other _ (by simp) _, h6.set1 _,
    (h.hm.grown hg (hne _ (by omega))).setCell _ (by simp) _, ?_, (h.hx.grown hg (hne _ (by omega))).other _ (by simp; omega) _, (h.hy.grown hg (hne _ (by omega))).other _ (by simp; omega) _⟩
  rw [List.length_append]
  unfold flatQ at ho2 ⊢
  rw [List.flatMap_append]
  exact ho2

set_option maxRecDepth 100000 in
set_option maxHeartbeats 2000000 in
theorem differ_any (bx by' : Nat) (s t : ByteArray) (w : World) (hx : IsWord w bx s) (hy : IsWord w by' t) (hs60 : s.size ≤ 60) (ht60 : t.size ≤ 60) :
    Calls Try.prog 51 #[.pointer (some ⟨bx, 0, none⟩), .pointer (some ⟨by', 0, none⟩)] w fun e w' => e = .returned (.string (str (dbfs (bl s) (bl t) 3722 0 [((0, 0), [])]))) ∧ Below w.heap.size w w' := by
  have Hbs := Lib.hid (bl_len s)
  have Hbt := Lib.hid (bl_len t)
  have hbx := hx.lt
  have hby := hy.lt
  have hmm := @run_makeMap Try.prog
  refine (callsIn_wide (n := 9)).1 ?_
  refine callsIn_of_wp_marks Try.func51 rfl trivial ?_ rfl
  simp only [Try.ntmps51, List.size_toArray, List.length_cons, List.length_nil, Nat.reduceAdd, Nat.reduceSub, Array.replicate_succ, Array.replicate_zero, List.push_toArray, List.append_toArray, List.nil_append, List.cons_append]
  refine wpIn_wide.2 ?_
  go_wp2_with fail
  obtain ⟨n, hn⟩ : ∃ n, n = w.heap.size := ⟨_, rfl⟩
  obtain ⟨W0, hW0⟩ : ∃ W0, W0 = (((((((w.alloc (Obj.cells #[Value.pointer (some { block := bx, off := 0 })] 67)).alloc (Obj.cells #[Value.pointer (some { block := by', off := 0 })] 67)).alloc (Obj.cells #[Value.string { data := #[] }] 9)).alloc (Obj.map #[] 0)).alloc
    (Obj.cells #[Value.map (some (w.heap.size + 1 + 1 + 1))] 100)).alloc (Obj.cells #[Value.int IntKind.i64 0, Value.int IntKind.i64 0] 102)).alloc (Obj.cells #[Value.slice (some { block := w.heap.size + 1 + 1 + 1 + 1 + 1, off := 0 }) 1 1] 103)) := ⟨_, rfl⟩
  rw [← hW0]
  have hsz0 : W0.heap.size = n + 7 := by rw [hW0, hn]; simp
  have hB0 : Below n w W0 := by
    rw [hW0, hn]
    exact (((((((Below.refl _ _).alloc (Nat.le_refl _) _).alloc (by simp <;> omega) _).alloc (by simp <;> omega) _).alloc (by simp <;> omega) _).alloc (by simp <;> omega) _).alloc (by simp <;> omega) _).alloc (by simp <;> omega) _
  have hD0 : DS n bx by' s t W0 [((0, 0), [])] [] (.slice (some ⟨n + 5, 0, none⟩) 1 1) := by
    rw [hW0, hn]
    have h5 := Blk.new ((((w.alloc (Obj.cells #[Value.pointer (some { block := bx, off := 0 })] 67)).alloc (Obj.cells #[Value.pointer (some { block := by', off := 0 })] 67)).alloc (Obj.cells #[Value.string { data := #[] }] 9)).alloc (Obj.map #[] 0)) #[Value.map (some (w.heap.size + 1 + 1 + 1))] 100
    have hm := MB.new (((w.alloc (Obj.cells #[Value.pointer (some { block := bx, off := 0 })] 67)).alloc (Obj.cells #[Value.pointer (some { block := by', off := 0 })] 67)).alloc (Obj.cells #[Value.string { data := #[] }] 9)) pairV stepV okP
    have h6 := Blk.new ((((((w.alloc (Obj.cells #[Value.pointer (some { block := bx, off := 0 })] 67)).alloc (Obj.cells #[Value.pointer (some { block := by', off := 0 })] 67)).alloc (Obj.cells #[Value.string { data := #[] }] 9)).alloc (Obj.map #[] 0)).alloc (Obj.cells #[Value.map (some (w.heap.size + 1 + 1 + 1))] 100)).alloc (Obj.cells #[Value.int IntKind.i64 0, Value.int IntKind.i64 0] 102)) #[Value.slice (some { block := w.heap.size + 1 + 1 + 1 + 1 + 1, off := 0 }) 1 1] 103
    have hq := World.ownsRow_lit (base := w.heap.size + 5) (e := 102) (size := 2) (((((w.alloc (Obj.cells #[Value.pointer (some { block := bx, off := 0 })] 67)).alloc (Obj.cells #[Value.pointer (some { block := by', off := 0 })] 67)).alloc (Obj.cells #[Value.string { data := #[] }] 9)).alloc (Obj.map #[] 0)).alloc (Obj.cells #[Value.map (some (w.heap.size + 1 + 1 + 1))] 100)) #[Value.int IntKind.i64 0, Value.int IntKind.i64 0] 1 (by simp) (by unfold maxLen; omega) rfl
    simp only [World.size_alloc] at h5 hm h6 hq
    exact ⟨((((((Blk.new w _ 67).alloc _).alloc _).alloc _).alloc _).alloc _).alloc _, (((((Blk.new2 w _ _ 67).alloc _).alloc _).alloc _).alloc _).alloc _, ((((Blk.new3 w _ _ _ 9).alloc _).alloc _).alloc _).alloc _, (h5.alloc _).alloc _, h6, ((hm.alloc _).alloc _).alloc _, hq.alloc _,
      hx.below (((((((Below.refl _ _).alloc (Nat.le_refl _) _).alloc (by simp) _).alloc (by simp; omega) _).alloc (by simp; omega) _).alloc (by simp; omega) _).alloc (by simp; omega) _ |>.alloc (by simp; omega) _),
      hy.below (((((((Below.refl _ _).alloc (Nat.le_refl _) _).alloc (by simp) _).alloc (by simp; omega) _).alloc (by simp; omega) _).alloc (by simp; omega) _).alloc (by simp; omega) _ |>.alloc (by simp; omega) _)⟩
  rw [← hn] at hbx hby ⊢
  have Hn := Lib.hid hn
  clear hW0 hmm hx hy hn
  simp only [Nat.add_assoc, Nat.reduceAdd]
  refine wp_loop (fun a wr => ∃ (u8 u21 u22 u23 u24 u25 u26 u27 u28 u29 u30 u31 : Value) (ds : List Deferred) (at' f top : Nat) (Q : List (Pr × List Nat)) (F : List (Pr × (Pr × ByteArray))) (qv : Value),
    a = { tmps := #[Value.pointer (some ⟨bx, 0, none⟩), Value.pointer (some ⟨by', 0, none⟩), Value.pointer (some ⟨n, 0, none⟩), Value.pointer (some ⟨n + 1, 0, none⟩), Value.pointer (some ⟨n + 2, 0, none⟩), Value.pointer (some ⟨n + 4, 0, none⟩), Value.pointer (some ⟨n + 6, 0, none⟩), Value.int IntKind.i64 (at' : Int), u8, undef, undef, undef, undef, undef, undef, undef, undef, undef, Value.map (some (n + 3)), Value.agg #[Value.int IntKind.i64 0, Value.int IntKind.i64 0], Value.slice (some ⟨n + 5, 0, none⟩) 1 1, u21, u22, u23, u24, u25, u26, u27, u28, u29, u30, u31, undef, undef, undef, undef, undef, undef, undef, undef, undef, undef, undef, undef, undef, undef, undef, undef, undef, undef, undef, undef, undef, undef, undef, undef, undef, undef, undef, undef, undef, undef, undef, undef, undef, undef, undef, undef, undef, undef, undef, undef, undef, undef, undef, undef, undef, undef, undef, undef, undef, undef, undef, undef, undef, undef, undef, undef, undef, undef, undef, undef], defers := ds } ∧ at' ≤ Q.length ∧ 3722 ≤ f + at' ∧ RowKit.Hid (dbfs (bl s) (bl t) 3722 0 [((0, 0), [])] = dbfs (bl s) (bl t) f at' Q) ∧ DQ (bl s) (bl t) Q ∧ DF Q F ∧ DS n bx by' s t wr Q F qv ∧ Below n w wr ∧ Marks (n + 7) wr ds top ∧ top ≤ wr.heap.size)
    (fun a _ => 3722 - (intOf (a.tmps.getD 7 undef)).toNat) ?_ ?_
  · exact ⟨_, _, _, _, _, _, _, _, _, _, _, _, [], 0, 3722, 0, _, _, _, rfl, by simp, by omega, Lib.hid rfl, DQ.first _ _, DF.first, hD0, hB0, trivial, Nat.zero_le _⟩
  rintro a wr ⟨u8, u21, u22, u23, u24, u25, u26, u27, u28, u29, u30, u31, ds, at', f, top, Q, F, qv, rfl, hat, hf, Hit, hQ, hF, hD, hB, hM, htop⟩
  have hqlen := hQ.size (by rw [Hbs.out]; exact hs60) (by rw [Hbt.out]; exact ht60)
  obtain ⟨g, cap, rfl⟩ := own_form hD.hq hQ.ne
  have c2 := hD.h2.cell 0
  have c6 := hD.h6.cell 0
  simp only [List.getElem?_toArray, List.getElem?_cons_zero] at c2 c6
  by_cases hlt : at' < Q.length
  · obtain ⟨⟨⟨i, j⟩, wd⟩, hQat⟩ : ∃ e, Q[at']? = some e := ⟨_, List.getElem?_eq_getElem hlt⟩
    have q1 := hD.hq.cellAt (at' * 2) (by omega)
    have q2 := hD.hq.cellAt (at' * 2 + 1) (by omega)
    have q3 := flatQ_at hQat
    rw [q3.1] at q1
    rw [q3.2] at q2
    have hbnd := hQ.inX _ (List.mem_of_getElem? hQat)
    rw [Hbs.out, Hbt.out] at hbnd
    simp only at hbnd
    go_wp2_with fail
    refine (callsIn_wide.1 (alphabet_in Fence.wide 8 trivial rfl 4 _)).mono ?_
    rintro e w2' ⟨rfl, rfl⟩
    have hD2 := (hD.grown hbx hby (World.grownBy_alloc wr (.cells #[.int .i64 i, .int .i64 j] 102) none) (fun _ h => by cases h)).grown hbx hby (World.grownBy_alloc _ (.cells #[.int .i64 4] 3) none) (fun _ h => by cases h)
    have hp2 := (Blk.new wr #[.int .i64 i, .int .i64 j] 102).alloc (.cells #[.int .i64 4] 3)
    have hb2 := Blk.new2 wr (.cells #[.int .i64 i, .int .i64 j] 102) #[.int .i64 4] 3
    have hM2 := (hM.alloc (.cells #[.int .i64 i, .int .i64 j] 102)).alloc (.cells #[.int .i64 4] 3)
    have hn7 : n + 7 ≤ wr.heap.size := by have := hD.h6.lt; omega
    have hB2 := (hB.alloc (by omega) (.cells #[.int .i64 i, .int .i64 j] 102)).alloc (by simp; omega) (.cells #[.int .i64 4] 3)
    have hsz : ((wr.alloc (.cells #[.int .i64 i, .int .i64 j] 102)).alloc (.cells #[.int .i64 4] 3)).heap.size = wr.heap.size + 2 := by simp
    have hgl := (hD.hq.lt g rfl).2
    have hsz1 : (wr.alloc (.cells #[.int .i64 i, .int .i64 j] 102)).heap.size = wr.heap.size + 1 := by simp
    rw [hsz1] at *
    generalize (wr.alloc (.cells #[.int .i64 i, .int .i64 j] 102)).alloc (.cells #[.int .i64 4] 3) = W2 at hD2 hp2 hb2 hM2 hB2 hsz ⊢
    clear hD hM c2 c6 q1 q2 q3
    go_wp2
    have c4 := hb2.cell 0
    simp only [List.getElem?_toArray, List.getElem?_cons_zero] at c4
    refine (wpIn_wide (n := 9)).1 ?_
    refine wpIn_rangeFunc_ownG (F := Fence.wide) (n := 9) rfl (by omega) (gf := 64) (lb := #[.pointer (some ⟨wr.heap.size + 1, 0, none⟩)]) rfl trivial (enters_of Try.func64 (by kernel_rfl) rfl)
      (alpha_stops Fence.wide 8 trivial rfl (by omega) (wr.heap.size + 1) 4 (by omega) W2 (by omega) c4) (fun _ _ => trivial) (fun _ _ _ _ _ _ _ _ => trivial) (Below.refl _ _) (fun _ => rfl)
      (fun pr W => ∃ Q' F' qv', DI n wr.heap.size bx by' s t (i, j) wd Q at' W2 pr W Q' F' qv')
      (fun c pr W => c = .ret ∧ ∃ fw, drun (bl s) (bl t) (i, j) wd (pr.map (·.val)) Q = .fin fw ∧ Blk W (n + 2) #[.string (str fw)] 9 ∧ KeepsFrom (n + 7) W2 W ∧ Below n W2 W)
      (fun pr A B row hs hg hr => ?turn)
      (fun c pr A B row hs hg hr => ?turnx)
      ⟨Q, F, .slice (some ⟨g, 0, none⟩) Q.length cap, ?h0⟩
      (fun x => { tmps := #[Value.pointer (some ⟨bx, 0, none⟩), Value.pointer (some ⟨by', 0, none⟩), Value.pointer (some ⟨n, 0, none⟩), Value.pointer (some ⟨n + 1, 0, none⟩), Value.pointer (some ⟨n + 2, 0, none⟩), Value.pointer (some ⟨n + 4, 0, none⟩), Value.pointer (some ⟨n + 6, 0, none⟩), Value.int IntKind.i64 (at' : Int), Value.pointer (some ⟨wr.heap.size, 0, none⟩), Value.int IntKind.i64 (x.val : Int), Value.string (letter x.val), undef, undef, undef, undef, undef, undef, undef, Value.map (some (n + 3)), Value.agg #[Value.int IntKind.i64 0, Value.int IntKind.i64 0], Value.slice (some ⟨n + 5, 0, none⟩) 1 1, Value.int IntKind.i64 (at' : Int), Value.slice (some ⟨g, 0, none⟩) Q.length cap, Value.int IntKind.i64 Q.length, Value.bool true, u25, u26, Value.slice (some ⟨g, 0, none⟩) Q.length cap, Value.int IntKind.i64 (at' : Int), Value.pointer (some ⟨g, at' * 2, none⟩), Value.agg #[Value.int IntKind.i64 i, Value.int IntKind.i64 j], Value.func (Fn.func 64) #[] #[Value.pointer (some ⟨wr.heap.size + 1, 0, none⟩)], Value.int IntKind.i64 (x.val : Int), Value.string (letter x.val), undef, undef, undef, undef, undef, undef, undef, undef, undef, undef, undef, undef, undef, undef, undef, undef, undef, undef, undef, undef, undef, undef, undef, undef, undef, undef, undef, undef, undef, undef, undef, undef, undef, undef, undef, undef, undef, undef, undef, undef, undef, undef, undef, undef, undef, undef, undef, undef, undef, undef, undef, undef, undef, undef, undef, undef, undef, undef], defers := [] }) ?assign ?body ?done ?stop
    case turn =>
      obtain ⟨Q', F', qv', h⟩ := hs
      have hsA := h.keeps.size
      exact ⟨Q', F', qv', h.run, h.dq, h.df, h.here, h.ds.turn hbx hby (B := W2.heap.size) (by omega) hg hr, h.pair.turn hg hr, h.ne, keepsFrom_turn h.keeps hg hr, h.below.grown hg (by omega) (fun k e => by have := (hr k e).1; omega)⟩
    case turnx =>
      obtain ⟨e, fw, h1, h2, h3, h4⟩ := hs
      have hsA := h3.size
      exact ⟨e, fw, h1, h2.turn hg hr, keepsFrom_turn h3 hg hr, h4.grown hg (by omega) (fun k e => by have := (hr k e).1; omega)⟩
    case h0 => exact ⟨rfl, hQ, hF, hQat, hD2, hp2, by simp [Value.ownBlock]; omega, KeepsFrom.refl _ _, Below.refl _ _⟩
    case assign =>
      intro l x W K hK
      gi_wp2
      exact hK
    case body =>
      rintro l pr x W ⟨Q', F', qv', hI⟩ _
      generalize hlt : letter x.val = lt
      have Hlt := Lib.hid (hlt.symm.trans (letter_eq x))
      clear hlt
      have hx4 := x.isLt
      have hD' := hI.ds
      have hsW := hI.keeps.size
      have hne := hI.ne
      have hq'len := hI.dq.size (by rw [Hbs.out]; exact hs60) (by rw [Hbt.out]; exact ht60)
      obtain ⟨g', cap', rfl⟩ := own_form hD'.hq hI.dq.ne
      have hg'l := (hD'.hq.lt g' rfl).2
      have c2 := hD'.h2.cell 0
      have c3 := hD'.h3.cell 0
      have c5 := hD'.h5.cell 0
      have c6 := hD'.h6.cell 0
      have f6 := hD'.h6.frozen 0
      have p0 := hI.pair.cell 0
      have p1 := hI.pair.cell 1
      simp only [List.getElem?_toArray, List.getElem?_cons_zero, List.getElem?_cons_succ] at c2 c3 c5 c6 p0 p1
      have hle1 := nx_le (bl s) x.val i (by rw [Hbs.out]; exact hbnd.1)
      have hle2 := nx_le (bl t) x.val j (by rw [Hbt.out]; exact hbnd.2)
      rw [Hbs.out] at hle1
      rw [Hbt.out] at hle2
      obtain ⟨A, hA⟩ : ∃ A, A = nx (bl s) x.val i + 1 := ⟨_, rfl⟩
      obtain ⟨B, hBB⟩ : ∃ B, B = nx (bl t) x.val j + 1 := ⟨_, rfl⟩
      have hA61 : A ≤ 61 := by omega
      have hB61 : B ≤ 61 := by omega
      have hkn := hI.df.known hI.dq (A, B) (by simp only; omega)
      have HA := Lib.hid hA
      have HBB := Lib.hid hBB
      clear hA hBB
      obtain ⟨v0, hv0⟩ : ∃ v0, ((getL F' (A, B)).map stepV).getD (stepV ((0, 0), ⟨#[]⟩)) = stepV v0 := by
        cases getL F' (A, B) with
        | none => exact ⟨_, rfl⟩
        | some v => exact ⟨v, rfl⟩
      have Hkn := Lib.hid hkn
      have Hv0 := Lib.hid hv0
      clear hkn hv0
      by_cases ha : nx (bl s) x.val i < s.size
      · by_cases hb : nx (bl t) x.val j < t.size
        · by_cases hin : (A, B) ∈ Q'.map (·.1)
          · have Hin := Lib.hid hin
            clear hin
            have hcall := after_at bx s i x.val i x.val A true W hD'.hx hs60 rfl rfl hbnd.1 hx4 (by simpa using ha) HA.out
            gi_wp2_with fail
            refine round_call hcall ?_
            rintro e w' ⟨rfl, nq, rfl⟩
            have hyW := hD'.hy.grown (grown_drewN W nq) (by simp)
            have hcall := after_at by' t j x.val j x.val B true (W.drewN nq) hyW ht60 rfl rfl hbnd.2 hx4 (by simpa using hb) HBB.out
            gi_wp2_with fail
            refine round_call hcall ?_
            rintro e w' ⟨rfl, nq2, rfl⟩
            have hD1 := (hD'.grown hbx hby (grown_drewN W nq) (by simp)).grown hbx hby (grown_drewN _ nq2) (by simp)
            have hp1 := (hI.pair.drewN nq).drewN nq2
            have hk1 := (keepsO_drewN W nq).trans (keepsO_drewN _ nq2)
            have hB1 := below_drewN (below_drewN hI.below nq) nq2
            have hs1 : W.heap.size ≤ ((W.drewN nq).drewN nq2).heap.size := Nat.le_refl _
            generalize (W.drewN nq).drewN nq2 = W1 at hD1 hp1 hk1 hB1 hs1 ⊢
            clear hcall hyW c2 c3 c5 c6 p0 p1 f6
            have c5 := (hD1.h5.alloc (.cells #[.int .i64 A, .int .i64 B] 102)).cell 0
            simp only [List.getElem?_toArray, List.getElem?_cons_zero] at c5
            gi_wp2_with (first
              | (gi_at_lookup
                 have hD3 := hD1.grown hbx hby (World.grownBy_alloc W1 (.cells #[.int .i64 A, .int .i64 B] 102) none) (by simp)
                 have hp3 := hp1.alloc (.cells #[.int .i64 A, .int .i64 B] 102)
                 have hk3 := hk1.trans (KeepsOthers.alloc W1 (.cells #[.int .i64 A, .int .i64 B] 102))
                 have hB3 := hB1.alloc (by omega) (.cells #[.int .i64 A, .int .i64 B] 102)
                 have hn3 := Blk.new W1 #[.int .i64 A, .int .i64 B] 102
                 have hs3 : W1.heap.size < (W1.alloc (.cells #[.int .i64 A, .int .i64 B] 102)).heap.size := by simp
                 obtain ⟨nb, hnb⟩ : ∃ nb, nb = W1.heap.size := ⟨_, rfl⟩
                 rw [← hnb] at hn3 hs3 ⊢
                 generalize W1.alloc (.cells #[.int .i64 A, .int .i64 B] 102) = W3 at hD3 hp3 hk3 hB3 hn3 hs3 ⊢
                 have hnb2 : W.heap.size ≤ nb := by omega
                 clear hnb c5
                 refine wpListIn_look rfl (.tmp 54) (.tmp 55) 100 true rfl kfPair hD3.hm Try.underlying100 (zero105 _) (A, B) ⟨by simp only; omega, by simp only; omega⟩ rfl rfl ?_
                 rw [if_pos rfl, Hv0.out, Hkn.out, decide_eq_true Hin.out]
                 simp only [stepV]
                 obtain ⟨⟨v1, v2⟩, v3⟩ := v0
                 have hD4 := hD3.grown hbx hby (World.grownBy_alloc W3 (.cells #[.int .i64 v1, .int .i64 v2, .string v3] 105) none) (by simp)
                 have hp4 := hp3.alloc (.cells #[.int .i64 v1, .int .i64 v2, .string v3] 105)
                 have hk4 := hk3.trans (KeepsOthers.alloc W3 (.cells #[.int .i64 v1, .int .i64 v2, .string v3] 105))
                 have hB4 := hB3.alloc (by omega) (.cells #[.int .i64 v1, .int .i64 v2, .string v3] 105)
                 have hn4 := hn3.alloc (.cells #[.int .i64 v1, .int .i64 v2, .string v3] 105)))
            refine ⟨hk4.from _, trivial, Q', F', _, ?_, hI.dq, hI.df, hI.here, hD4, hp4, hne, hI.keeps.trans (hk4.from _), hB4⟩
            rw [List.map_append, List.map_cons, List.map_nil, drun_snoc _ hI.run]
            unfold dstep
            rw [if_neg (by rw [Hbs.out, Hbt.out]; simp [ha, hb]), if_neg (fun h => h.2 (by rw [← HA.out, ← HBB.out]; exact Hin.out))]
          · have Hin := Lib.hid hin
            clear hin
            have hcall := after_at bx s i x.val i x.val A true W hD'.hx hs60 rfl rfl hbnd.1 hx4 (by simpa using ha) HA.out
            gi_wp2_with fail
            refine round_call hcall ?_
            rintro e w' ⟨rfl, nq, rfl⟩
            have hyW := hD'.hy.grown (grown_drewN W nq) (by simp)
            have hcall := after_at by' t j x.val j x.val B true (W.drewN nq) hyW ht60 rfl rfl hbnd.2 hx4 (by simpa using hb) HBB.out
            gi_wp2_with fail
            refine round_call hcall ?_
            rintro e w' ⟨rfl, nq2, rfl⟩
            have hD1 := (hD'.grown hbx hby (grown_drewN W nq) (by simp)).grown hbx hby (grown_drewN _ nq2) (by simp)
            have hp1 := (hI.pair.drewN nq).drewN nq2
            have hk1 := (keepsO_drewN W nq).trans (keepsO_drewN _ nq2)
            have hB1 := below_drewN (below_drewN hI.below nq) nq2
            have hs1 : W.heap.size ≤ ((W.drewN nq).drewN nq2).heap.size := Nat.le_refl _
            generalize (W.drewN nq).drewN nq2 = W1 at hD1 hp1 hk1 hB1 hs1 ⊢
            clear hcall hyW c2 c3 c5 c6 p0 p1 f6
            have c5 := (hD1.h5.alloc (.cells #[.int .i64 A, .int .i64 B] 102)).cell 0
            simp only [List.getElem?_toArray, List.getElem?_cons_zero] at c5
            gi_wp2_with (first
              | (gi_at_lookup
                 have hD3 := hD1.grown hbx hby (World.grownBy_alloc W1 (.cells #[.int .i64 A, .int .i64 B] 102) none) (by simp)
                 have hp3 := hp1.alloc (.cells #[.int .i64 A, .int .i64 B] 102)
                 have hk3 := hk1.trans (KeepsOthers.alloc W1 (.cells #[.int .i64 A, .int .i64 B] 102))
                 have hB3 := hB1.alloc (by omega) (.cells #[.int .i64 A, .int .i64 B] 102)
                 have hn3 := Blk.new W1 #[.int .i64 A, .int .i64 B] 102
                 have hs3 : W1.heap.size < (W1.alloc (.cells #[.int .i64 A, .int .i64 B] 102)).heap.size := by simp
                 obtain ⟨nb, hnb⟩ : ∃ nb, nb = W1.heap.size := ⟨_, rfl⟩
                 rw [← hnb] at hn3 hs3 ⊢
                 generalize W1.alloc (.cells #[.int .i64 A, .int .i64 B] 102) = W3 at hD3 hp3 hk3 hB3 hn3 hs3 ⊢
                 have hnb2 : W.heap.size ≤ nb := by omega
                 clear hnb c5
                 refine wpListIn_look rfl (.tmp 54) (.tmp 55) 100 true rfl kfPair hD3.hm Try.underlying100 (zero105 _) (A, B) ⟨by simp only; omega, by simp only; omega⟩ rfl rfl ?_
                 rw [if_pos rfl, Hv0.out, Hkn.out, decide_eq_false Hin.out]
                 simp only [stepV]
                 obtain ⟨⟨v1, v2⟩, v3⟩ := v0
                 have hD4 := hD3.grown hbx hby (World.grownBy_alloc W3 (.cells #[.int .i64 v1, .int .i64 v2, .string v3] 105) none) (by simp)
                 have hp4 := hp3.alloc (.cells #[.int .i64 v1, .int .i64 v2, .string v3] 105)
                 have hk4 := hk3.trans (KeepsOthers.alloc W3 (.cells #[.int .i64 v1, .int .i64 v2, .string v3] 105))
                 have hB4 := hB3.alloc (by omega) (.cells #[.int .i64 v1, .int .i64 v2, .string v3] 105)
                 have hn4 := hn3.alloc (.cells #[.int .i64 v1, .int .i64 v2, .string v3] 105)
                 have c5 := hD4.h5.cell 0
                 have d0 := hn4.cell 0
                 have d1 := hn4.cell 1
                 have p0 := hp4.cell 0
                 have p1 := hp4.cell 1
                 simp only [List.getElem?_toArray, List.getElem?_cons_zero, List.getElem?_cons_succ] at c5 d0 d1 p0 p1)
              | (gi_at_mapUpdate
                 refine wpListIn_mapset rfl (.tmp 83) (.tmp 84) (.tmp 87) 100 rfl kfPair hD4.hm Try.underlying100 (A, B) ⟨by simp only; omega, by simp only; omega⟩ ((i, j), lt) rfl rfl rfl ?_
                 intro es clock hm5
                 have hg5 := grown_setBlock (W3.alloc (.cells #[.int .i64 v1, .int .i64 v2, .string v3] 105)) (n + 3) (.map es clock)
                 have hD5 := hD4.putMap hbx hby hm5
                 have hp5 := hp4.grown hg5 (by simp; omega)
                 have hn5 := hn4.grown hg5 (by simp; omega)
                 have hk5 := (hk4.from (n + 7)).trans (KeepsFrom.of_grownBy hg5 (by intro j e; cases e; omega))
                 have hB5 := hB4.grown hg5 (by simp; omega) (by intro k e; cases e; omega)
                 generalize setBlock (W3.alloc (.cells #[.int .i64 v1, .int .i64 v2, .string v3] 105)) (n + 3) (.map es clock) = W5 at hm5 hg5 hD5 hp5 hn5 hk5 hB5 ⊢
                 clear c5 d0 d1 p0 p1 hm5 hg5
                 have c6 := hD5.h6.cell 0
                 have d0 := hn5.cell 0
                 have d1 := hn5.cell 1
                 simp only [List.getElem?_toArray, List.getElem?_cons_zero, List.getElem?_cons_succ] at c6 d0 d1)
              | (gi_at_builtin
                 have hD6 := hD5.grown hbx hby (World.grownBy_alloc W5 (.cells #[.int .i64 A, .int .i64 B] 102) none) (by simp)
                 have hp6 := hp5.alloc (.cells #[.int .i64 A, .int .i64 B] 102)
                 have hk6 := hk5.trans ((KeepsOthers.alloc W5 (.cells #[.int .i64 A, .int .i64 B] 102)).from _)
                 have hs5 := hp5.lt
                 have hB6 := hB5.alloc (by omega) (.cells #[.int .i64 A, .int .i64 B] 102)
                 have hl6 := Blk.new W5 #[.int .i64 A, .int .i64 B] 102
                 obtain ⟨i0, hi0, hz0, hsz0', hby0⟩ := info_parts info102
                 refine wpListIn_append_own _ rfl (.tmp 88) (.tmp 90) 103 rfl (n + 5) 102 i0 (.agg #[.int .i64 0, .int .i64 0]) 2 16 Try.underlying103 hi0 hz0 hsz0' hby0 rfl (by omega) (.slice (some ⟨g', 0, none⟩) Q'.length cap') Q'.length _ rfl hD6.hq ⟨W5.heap.size, 0, none⟩ 1 1 [.int .i64 A, .int .i64 B] rfl rfl
                   (by
                     intro k u hu
                     match k, hu with
                     | 0, hu => cases hu; exact hl6.cell 0
                     | 1, hu => cases hu; exact hl6.cell 1)
                   (by simp [Value.oneCell']) (by unfold maxLen; omega) (by omega) (by simp; omega) ?_
                 intro v' w' ho hg hnil
                 have h66 := hD6.h6.grown hg (fun e => own_ne_type hD6.hq hD6.h6 (by omega) e.symm)
                 have f6 := h66.frozen 0
                 have c6 := h66.cell 0
                 simp only [List.getElem?_toArray, List.getElem?_cons_zero] at c6
                 obtain ⟨g2, cap2, rfl⟩ := own_form ho (by omega)
                 clear hnil))
            have hp7 := hp6.grown hg (fun e => hne e.symm)
            have hne7 := own_ne_small ho hp7 (by have := hI.dq.ne; simp; omega)
            have hk7 := hk6.trans (((KeepsOthers.of_grownBy hg (fun j o e ho' => by
              obtain ⟨c, fz, h1⟩ := own_kind hD6.hq j e
              rw [h1] at ho'; cases ho'; rfl)).trans (KeepsOthers.setCell _ ⟨n + 6, 0, none⟩ (.slice (some ⟨g2, 0, none⟩) (Q'.length + 1) cap2))).from _)
            have hB7 := (hB6.grown hg (by simp; omega) (fun k e => by have := (hD6.hq.lt k e).1; omega)).setCell (p := ⟨n + 6, 0, none⟩) (by simp) (.slice (some ⟨g2, 0, none⟩) (Q'.length + 1) cap2)
            have hn0 : (A, B) ∉ Q'.map (·.1) := Hin.out
            rw [HA.out, HBB.out] at hn0
            have hdq := hI.dq.push hI.here (by rw [Hbs.out]; exact ha) (by rw [Hbt.out]; exact hb) hn0
            have hdf := hI.df.push (q := (A, B)) (c := x) hI.here
            have hput : putL F' (A, B) ((i, j), lt) = F' ++ [((A, B), ((i, j), str [97 + x.val]))] := by
              unfold putL
              rw [Hkn.out, decide_eq_false Hin.out, Hlt.out]; rfl
            have hD7 := hD6.push hbx hby hg ((A, B), wd ++ [97 + x.val]) ho
            rw [hput] at hD7
            rw [← HA.out, ← HBB.out] at hdq
            refine ⟨KeepsFrom.mono_ hk7 (by omega), trivial, _, _, _, ?_, hdq, hdf, ?_, hD7, hp7.other _ (by simp; omega) _, hne7, hI.keeps.trans hk7, hB7⟩
            · rw [List.map_append, List.map_cons, List.map_nil, drun_snoc _ hI.run]
              unfold dstep
              rw [if_neg (by rw [Hbs.out, Hbt.out]; simp [ha, hb]), if_pos ⟨by rw [Hbs.out]; exact ha, hn0⟩, HA.out, HBB.out]
            · rw [List.getElem?_append_left (List.getElem?_eq_some_iff.1 hI.here).1]; exact hI.here
        ·
          have hcall := after_at bx s i x.val i x.val A true W hD'.hx hs60 rfl rfl hbnd.1 hx4 (by simpa using ha) HA.out
          gi_wp2_with fail
          refine round_call hcall ?_
          rintro e w' ⟨rfl, nq, rfl⟩
          have hyW := hD'.hy.grown (grown_drewN W nq) (by simp)
          have hcall := after_at by' t j x.val j x.val B false (W.drewN nq) hyW ht60 rfl rfl hbnd.2 hx4 (by simpa using hb) HBB.out
          gi_wp2_with fail
          refine round_call hcall ?_
          rintro e w' ⟨rfl, nq2, rfl⟩
          have hD1 := (hD'.grown hbx hby (grown_drewN W nq) (by simp)).grown hbx hby (grown_drewN _ nq2) (by simp)
          have hp1 := (hI.pair.drewN nq).drewN nq2
          have hk1 := (keepsO_drewN W nq).trans (keepsO_drewN _ nq2)
          have hB1 := below_drewN (below_drewN hI.below nq) nq2
          have hs1 : W.heap.size ≤ ((W.drewN nq).drewN nq2).heap.size := Nat.le_refl _
          generalize (W.drewN nq).drewN nq2 = W1 at hD1 hp1 hk1 hB1 hs1 ⊢
          clear hcall hyW c2 c3 c5 c6 p0 p1 f6
          have c5 := (hD1.h5.alloc (.cells #[.int .i64 A, .int .i64 B] 102)).cell 0
          simp only [List.getElem?_toArray, List.getElem?_cons_zero] at c5
          gi_wp2_with (first
            | (gi_at_lookup
               have hD3 := hD1.grown hbx hby (World.grownBy_alloc W1 (.cells #[.int .i64 A, .int .i64 B] 102) none) (by simp)
               have hp3 := hp1.alloc (.cells #[.int .i64 A, .int .i64 B] 102)
               have hk3 := hk1.trans (KeepsOthers.alloc W1 (.cells #[.int .i64 A, .int .i64 B] 102))
               have hB3 := hB1.alloc (by omega) (.cells #[.int .i64 A, .int .i64 B] 102)
               have hn3 := Blk.new W1 #[.int .i64 A, .int .i64 B] 102
               have hs3 : W1.heap.size < (W1.alloc (.cells #[.int .i64 A, .int .i64 B] 102)).heap.size := by simp
               obtain ⟨nb, hnb⟩ : ∃ nb, nb = W1.heap.size := ⟨_, rfl⟩
               rw [← hnb] at hn3 hs3 ⊢
               generalize W1.alloc (.cells #[.int .i64 A, .int .i64 B] 102) = W3 at hD3 hp3 hk3 hB3 hn3 hs3 ⊢
               have hnb2 : W.heap.size ≤ nb := by omega
               clear hnb c5
               refine wpListIn_look rfl (.tmp 54) (.tmp 55) 100 true rfl kfPair hD3.hm Try.underlying100 (zero105 _) (A, B) ⟨by simp only; omega, by simp only; omega⟩ rfl rfl ?_
               rw [if_pos rfl, Hv0.out, Hkn.out]
               simp only [stepV]
               obtain ⟨⟨v1, v2⟩, v3⟩ := v0
               have hD4 := hD3.grown hbx hby (World.grownBy_alloc W3 (.cells #[.int .i64 v1, .int .i64 v2, .string v3] 105) none) (by simp)
               have hp4 := hp3.alloc (.cells #[.int .i64 v1, .int .i64 v2, .string v3] 105)
               have hk4 := hk3.trans (KeepsOthers.alloc W3 (.cells #[.int .i64 v1, .int .i64 v2, .string v3] 105))
               have hB4 := hB3.alloc (by omega) (.cells #[.int .i64 v1, .int .i64 v2, .string v3] 105)
               have hn4 := hn3.alloc (.cells #[.int .i64 v1, .int .i64 v2, .string v3] 105)
               have c5 := hD4.h5.cell 0
               have d0 := hn4.cell 0
               have d1 := hn4.cell 1
               have p0 := hp4.cell 0
               have p1 := hp4.cell 1
               simp only [List.getElem?_toArray, List.getElem?_cons_zero, List.getElem?_cons_succ] at c5 d0 d1 p0 p1))
          generalize decide ((A, B) ∈ Q'.map (·.1)) = kb
          gi_loopw [10] (fun v wr' => ∃ (q : Pr) (k : Nat) (wdq rest : List Nat), v = .string (str rest) ∧ Q'[k]? = some (q, wdq) ∧ RowKit.Hid (wdq ++ rest = wd ++ [97 + x.val]) ∧ rest.length ≤ 61 ∧ Blk wr' wr.heap.size #[.int .i64 q.1, .int .i64 q.2] 102 ∧
            DS n bx by' s t wr' Q' F' (.slice (some ⟨g', 0, none⟩) Q'.length cap') ∧ KeepsFrom (n + 7) W wr' ∧ Below n W2 wr') (fun v _ => 100 - strLen v)
          case atStart => exact ⟨(i, j), at', wd, [97 + x.val], by rw [Hlt.out], hI.here, Lib.hid rfl, by simp, hp4, hD4, hk4.from _, hB4⟩
          case round =>
            obtain ⟨⟨q1, q2⟩, k, wdq, rest, rfl, hQk, Hrest, hrl, hpq, hDq, hkq, hBq⟩ := hrel
            clear c5 d0 d1 p0 p1
            have c5 := hDq.h5.cell 0
            have p0 := hpq.cell 0
            have p1 := hpq.cell 1
            simp only [List.getElem?_toArray, List.getElem?_cons_zero, List.getElem?_cons_succ] at c5 p0 p1
            cases k with
            | zero =>
              have h0 := hI.dq.head
              rw [hQk] at h0
              obtain ⟨h1, rfl⟩ := Prod.mk.inj (Option.some.inj h0)
              obtain ⟨rfl, rfl⟩ := Prod.mk.inj h1
              clear h0 h1
              have f4 := hDq.h4.frozen 0
              have c4 := hDq.h4.cell 0
              simp only [List.getElem?_toArray, List.getElem?_cons_zero] at c4
              gi_wp2
              have hrt := Hrest.out
              rw [List.nil_append] at hrt
              refine ⟨KeepsFrom.mono_ (hkq.trans ((KeepsOthers.setCell _ ⟨n + 2, 0, none⟩ (.string (str rest))).from _)) (by omega), rfl, rest, ?_, hDq.h4.set1 _, hI.keeps.trans (hkq.trans ((KeepsOthers.setCell _ ⟨n + 2, 0, none⟩ (.string (str rest))).from _)), hBq.setCell (p := ⟨n + 2, 0, none⟩) (by simp) _⟩
              rw [List.map_append, List.map_cons, List.map_nil, drun_snoc _ hI.run, hrt]
              unfold dstep
              rw [if_pos (by rw [Hbs.out, Hbt.out]; simp [ha, hb])]
            | succ m =>
              obtain ⟨pp, jj, wd', c, hF, hjj, hQj, rfl⟩ := hI.df.from_ m _ _ hQk
              have hgl := getL_at (by rw [hI.df.tail]; exact List.Nodup.sublist (List.tail_sublist _) hI.dq.apart) hF
              have hps := hI.dq.pos m _ _ hQk
              have hlq := hI.dq.len _ (List.mem_of_getElem? hQk)
              have hbq := hI.dq.inX _ (List.mem_of_getElem? hQk)
              rw [Hbs.out, Hbt.out] at hbq
              have Hgl := Lib.hid hgl
              have hrt := congrArg List.length Hrest.out
              have hlw := hI.dq.len _ (List.mem_of_getElem? hI.here)
              simp only [List.length_append, List.length_cons, List.length_nil] at hps hlq hbq hrt hlw
              have hrl2 : rest.length + 1 ≤ 61 := by omega
              clear hgl hrt
              have Hrest2 : RowKit.Hid (wd' ++ (97 + c.val) :: rest = wd ++ [97 + x.val]) := Lib.hid (by have := Hrest.out; simpa using this)
              have f0 := hpq.frozen 0
              have f1 := hpq.frozen 1
              have hsz1 : (str [97 + c.val]).size + (str rest).size ≤ 9223372036854775807 := by rw [str_size, str_size]; simp; omega
              obtain ⟨pp1, pp2⟩ := pp
              have hf1 := fld1
              have hf0 := fld0
              gi_wp2_with (gi_at_lookup
                           refine wpListIn_look rfl _ _ 100 false rfl kfPair hDq.hm Try.underlying100 (zero105 _) (q1, q2) ⟨by simp only; omega, by simp only; omega⟩ rfl rfl ?_
                           rw [if_neg (by simp), Hgl.out]
                           simp only [Option.map_some, Option.getD_some, stepV])
              refine ⟨⟨(pp1, pp2), jj, wd', (97 + c.val) :: rest, by rw [str_append]; rfl, hQj, Hrest2, by simp; omega, ((hpq.set 0 _).set 1 _).as (by simp), ?_, ?_, ?_⟩, ?_⟩
              · exact (hDq.grown hbx hby (grown_setCell wr _ _) (fun r e => by cases e; exact ⟨by simp; omega, hne⟩)).grown hbx hby (grown_setCell _ _ _) (fun r e => by cases e; exact ⟨by simp; omega, hne⟩)
              · exact hkq.trans (((KeepsOthers.setCell _ _ _).trans (KeepsOthers.setCell _ _ _)).from _)
              · exact (hBq.setCell (by simp; omega) _).setCell (by simp; omega) _
              · rw [str_append]
                show 100 - (str _).size < 100 - (str _).size
                rw [str_size, str_size]; simp; omega
      · by_cases hb : nx (bl t) x.val j < t.size
        ·
          have hcall := after_at bx s i x.val i x.val A false W hD'.hx hs60 rfl rfl hbnd.1 hx4 (by simpa using ha) HA.out
          gi_wp2_with fail
          refine round_call hcall ?_
          rintro e w' ⟨rfl, nq, rfl⟩
          have hyW := hD'.hy.grown (grown_drewN W nq) (by simp)
          have hcall := after_at by' t j x.val j x.val B true (W.drewN nq) hyW ht60 rfl rfl hbnd.2 hx4 (by simpa using hb) HBB.out
          gi_wp2_with fail
          refine round_call hcall ?_
          rintro e w' ⟨rfl, nq2, rfl⟩
          have hD1 := (hD'.grown hbx hby (grown_drewN W nq) (by simp)).grown hbx hby (grown_drewN _ nq2) (by simp)
          have hp1 := (hI.pair.drewN nq).drewN nq2
          have hk1 := (keepsO_drewN W nq).trans (keepsO_drewN _ nq2)
          have hB1 := below_drewN (below_drewN hI.below nq) nq2
          have hs1 : W.heap.size ≤ ((W.drewN nq).drewN nq2).heap.size := Nat.le_refl _
          generalize (W.drewN nq).drewN nq2 = W1 at hD1 hp1 hk1 hB1 hs1 ⊢
          clear hcall hyW c2 c3 c5 c6 p0 p1 f6
          have c5 := (hD1.h5.alloc (.cells #[.int .i64 A, .int .i64 B] 102)).cell 0
          simp only [List.getElem?_toArray, List.getElem?_cons_zero] at c5
          gi_wp2_with (first
            | (gi_at_lookup
               have hD3 := hD1.grown hbx hby (World.grownBy_alloc W1 (.cells #[.int .i64 A, .int .i64 B] 102) none) (by simp)
               have hp3 := hp1.alloc (.cells #[.int .i64 A, .int .i64 B] 102)
               have hk3 := hk1.trans (KeepsOthers.alloc W1 (.cells #[.int .i64 A, .int .i64 B] 102))
               have hB3 := hB1.alloc (by omega) (.cells #[.int .i64 A, .int .i64 B] 102)
               have hn3 := Blk.new W1 #[.int .i64 A, .int .i64 B] 102
               have hs3 : W1.heap.size < (W1.alloc (.cells #[.int .i64 A, .int .i64 B] 102)).heap.size := by simp
               obtain ⟨nb, hnb⟩ : ∃ nb, nb = W1.heap.size := ⟨_, rfl⟩
               rw [← hnb] at hn3 hs3 ⊢
               generalize W1.alloc (.cells #[.int .i64 A, .int .i64 B] 102) = W3 at hD3 hp3 hk3 hB3 hn3 hs3 ⊢
               have hnb2 : W.heap.size ≤ nb := by omega
               clear hnb c5
               refine wpListIn_look rfl (.tmp 54) (.tmp 55) 100 true rfl kfPair hD3.hm Try.underlying100 (zero105 _) (A, B) ⟨by simp only; omega, by simp only; omega⟩ rfl rfl ?_
               rw [if_pos rfl, Hv0.out, Hkn.out]
               simp only [stepV]
               obtain ⟨⟨v1, v2⟩, v3⟩ := v0
               have hD4 := hD3.grown hbx hby (World.grownBy_alloc W3 (.cells #[.int .i64 v1, .int .i64 v2, .string v3] 105) none) (by simp)
               have hp4 := hp3.alloc (.cells #[.int .i64 v1, .int .i64 v2, .string v3] 105)
               have hk4 := hk3.trans (KeepsOthers.alloc W3 (.cells #[.int .i64 v1, .int .i64 v2, .string v3] 105))
               have hB4 := hB3.alloc (by omega) (.cells #[.int .i64 v1, .int .i64 v2, .string v3] 105)
               have hn4 := hn3.alloc (.cells #[.int .i64 v1, .int .i64 v2, .string v3] 105)
               have c5 := hD4.h5.cell 0
               have d0 := hn4.cell 0
               have d1 := hn4.cell 1
               have p0 := hp4.cell 0
               have p1 := hp4.cell 1
               simp only [List.getElem?_toArray, List.getElem?_cons_zero, List.getElem?_cons_succ] at c5 d0 d1 p0 p1))
          generalize decide ((A, B) ∈ Q'.map (·.1)) = kb
          gi_loopw [10] (fun v wr' => ∃ (q : Pr) (k : Nat) (wdq rest : List Nat), v = .string (str rest) ∧ Q'[k]? = some (q, wdq) ∧ RowKit.Hid (wdq ++ rest = wd ++ [97 + x.val]) ∧ rest.length ≤ 61 ∧ Blk wr' wr.heap.size #[.int .i64 q.1, .int .i64 q.2] 102 ∧
            DS n bx by' s t wr' Q' F' (.slice (some ⟨g', 0, none⟩) Q'.length cap') ∧ KeepsFrom (n + 7) W wr' ∧ Below n W2 wr') (fun v _ => 100 - strLen v)
          case atStart => exact ⟨(i, j), at', wd, [97 + x.val], by rw [Hlt.out], hI.here, Lib.hid rfl, by simp, hp4, hD4, hk4.from _, hB4⟩
          case round =>
            obtain ⟨⟨q1, q2⟩, k, wdq, rest, rfl, hQk, Hrest, hrl, hpq, hDq, hkq, hBq⟩ := hrel
            clear c5 d0 d1 p0 p1
            have c5 := hDq.h5.cell 0
            have p0 := hpq.cell 0
            have p1 := hpq.cell 1
            simp only [List.getElem?_toArray, List.getElem?_cons_zero, List.getElem?_cons_succ] at c5 p0 p1
            cases k with
            | zero =>
              have h0 := hI.dq.head
              rw [hQk] at h0
              obtain ⟨h1, rfl⟩ := Prod.mk.inj (Option.some.inj h0)
              obtain ⟨rfl, rfl⟩ := Prod.mk.inj h1
              clear h0 h1
              have f4 := hDq.h4.frozen 0
              have c4 := hDq.h4.cell 0
              simp only [List.getElem?_toArray, List.getElem?_cons_zero] at c4
              gi_wp2
              have hrt := Hrest.out
              rw [List.nil_append] at hrt
              refine ⟨KeepsFrom.mono_ (hkq.trans ((KeepsOthers.setCell _ ⟨n + 2, 0, none⟩ (.string (str rest))).from _)) (by omega), rfl, rest, ?_, hDq.h4.set1 _, hI.keeps.trans (hkq.trans ((KeepsOthers.setCell _ ⟨n + 2, 0, none⟩ (.string (str rest))).from _)), hBq.setCell (p := ⟨n + 2, 0, none⟩) (by simp) _⟩
              rw [List.map_append, List.map_cons, List.map_nil, drun_snoc _ hI.run, hrt]
              unfold dstep
              rw [if_pos (by rw [Hbs.out, Hbt.out]; simp [ha, hb])]
            | succ m =>
              obtain ⟨pp, jj, wd', c, hF, hjj, hQj, rfl⟩ := hI.df.from_ m _ _ hQk
              have hgl := getL_at (by rw [hI.df.tail]; exact List.Nodup.sublist (List.tail_sublist _) hI.dq.apart) hF
              have hps := hI.dq.pos m _ _ hQk
              have hlq := hI.dq.len _ (List.mem_of_getElem? hQk)
              have hbq := hI.dq.inX _ (List.mem_of_getElem? hQk)
              rw [Hbs.out, Hbt.out] at hbq
              have Hgl := Lib.hid hgl
              have hrt := congrArg List.length Hrest.out
              have hlw := hI.dq.len _ (List.mem_of_getElem? hI.here)
              simp only [List.length_append, List.length_cons, List.length_nil] at hps hlq hbq hrt hlw
              have hrl2 : rest.length + 1 ≤ 61 := by omega
              clear hgl hrt
              have Hrest2 : RowKit.Hid (wd' ++ (97 + c.val) :: rest = wd ++ [97 + x.val]) := Lib.hid (by have := Hrest.out; simpa using this)
              have f0 := hpq.frozen 0
              have f1 := hpq.frozen 1
              have hsz1 : (str [97 + c.val]).size + (str rest).size ≤ 9223372036854775807 := by rw [str_size, str_size]; simp; omega
              obtain ⟨pp1, pp2⟩ := pp
              have hf1 := fld1
              have hf0 := fld0
              gi_wp2_with (gi_at_lookup
                           refine wpListIn_look rfl _ _ 100 false rfl kfPair hDq.hm Try.underlying100 (zero105 _) (q1, q2) ⟨by simp only; omega, by simp only; omega⟩ rfl rfl ?_
                           rw [if_neg (by simp), Hgl.out]
                           simp only [Option.map_some, Option.getD_some, stepV])
              refine ⟨⟨(pp1, pp2), jj, wd', (97 + c.val) :: rest, by rw [str_append]; rfl, hQj, Hrest2, by simp; omega, ((hpq.set 0 _).set 1 _).as (by simp), ?_, ?_, ?_⟩, ?_⟩
              · exact (hDq.grown hbx hby (grown_setCell wr _ _) (fun r e => by cases e; exact ⟨by simp; omega, hne⟩)).grown hbx hby (grown_setCell _ _ _) (fun r e => by cases e; exact ⟨by simp; omega, hne⟩)
              · exact hkq.trans (((KeepsOthers.setCell _ _ _).trans (KeepsOthers.setCell _ _ _)).from _)
              · exact (hBq.setCell (by simp; omega) _).setCell (by simp; omega) _
              · rw [str_append]
                show 100 - (str _).size < 100 - (str _).size
                rw [str_size, str_size]; simp; omega
        ·
          have hcall := after_at bx s i x.val i x.val A false W hD'.hx hs60 rfl rfl hbnd.1 hx4 (by simpa using ha) HA.out
          gi_wp2_with fail
          refine round_call hcall ?_
          rintro e w' ⟨rfl, nq, rfl⟩
          have hyW := hD'.hy.grown (grown_drewN W nq) (by simp)
          have hcall := after_at by' t j x.val j x.val B false (W.drewN nq) hyW ht60 rfl rfl hbnd.2 hx4 (by simpa using hb) HBB.out
          gi_wp2_with fail
          refine round_call hcall ?_
          rintro e w' ⟨rfl, nq2, rfl⟩
          have hD1 := (hD'.grown hbx hby (grown_drewN W nq) (by simp)).grown hbx hby (grown_drewN _ nq2) (by simp)
          have hp1 := (hI.pair.drewN nq).drewN nq2
          have hk1 := (keepsO_drewN W nq).trans (keepsO_drewN _ nq2)
          have hB1 := below_drewN (below_drewN hI.below nq) nq2
          have hs1 : W.heap.size ≤ ((W.drewN nq).drewN nq2).heap.size := Nat.le_refl _
          generalize (W.drewN nq).drewN nq2 = W1 at hD1 hp1 hk1 hB1 hs1 ⊢
          clear hcall hyW c2 c3 c5 c6 p0 p1 f6
          have c5 := (hD1.h5.alloc (.cells #[.int .i64 A, .int .i64 B] 102)).cell 0
          simp only [List.getElem?_toArray, List.getElem?_cons_zero] at c5
          gi_wp2_with (first
            | (gi_at_lookup
               have hD3 := hD1.grown hbx hby (World.grownBy_alloc W1 (.cells #[.int .i64 A, .int .i64 B] 102) none) (by simp)
               have hp3 := hp1.alloc (.cells #[.int .i64 A, .int .i64 B] 102)
               have hk3 := hk1.trans (KeepsOthers.alloc W1 (.cells #[.int .i64 A, .int .i64 B] 102))
               have hB3 := hB1.alloc (by omega) (.cells #[.int .i64 A, .int .i64 B] 102)
               have hn3 := Blk.new W1 #[.int .i64 A, .int .i64 B] 102
               have hs3 : W1.heap.size < (W1.alloc (.cells #[.int .i64 A, .int .i64 B] 102)).heap.size := by simp
               obtain ⟨nb, hnb⟩ : ∃ nb, nb = W1.heap.size := ⟨_, rfl⟩
               rw [← hnb] at hn3 hs3 ⊢
               generalize W1.alloc (.cells #[.int .i64 A, .int .i64 B] 102) = W3 at hD3 hp3 hk3 hB3 hn3 hs3 ⊢
               have hnb2 : W.heap.size ≤ nb := by omega
               clear hnb c5
               refine wpListIn_look rfl (.tmp 54) (.tmp 55) 100 true rfl kfPair hD3.hm Try.underlying100 (zero105 _) (A, B) ⟨by simp only; omega, by simp only; omega⟩ rfl rfl ?_
               rw [if_pos rfl, Hv0.out, Hkn.out]
               simp only [stepV]
               obtain ⟨⟨v1, v2⟩, v3⟩ := v0
               have hD4 := hD3.grown hbx hby (World.grownBy_alloc W3 (.cells #[.int .i64 v1, .int .i64 v2, .string v3] 105) none) (by simp)
               have hp4 := hp3.alloc (.cells #[.int .i64 v1, .int .i64 v2, .string v3] 105)
               have hk4 := hk3.trans (KeepsOthers.alloc W3 (.cells #[.int .i64 v1, .int .i64 v2, .string v3] 105))
               have hB4 := hB3.alloc (by omega) (.cells #[.int .i64 v1, .int .i64 v2, .string v3] 105)
               have hn4 := hn3.alloc (.cells #[.int .i64 v1, .int .i64 v2, .string v3] 105)
               generalize decide ((A, B) ∈ Q'.map (·.1)) = kb))
          refine ⟨hk4.from _, trivial, Q', F', _, ?_, hI.dq, hI.df, hI.here, hD4, hp4, hne, hI.keeps.trans (hk4.from _), hB4⟩
          rw [List.map_append, List.map_cons, List.map_nil, drun_snoc _ hI.run]
          unfold dstep
          rw [if_neg (by rw [Hbs.out, Hbt.out]; simp [ha, hb]), if_neg (fun h => ha (by have := h.1; rw [Hbs.out] at this; exact this))]
    case done =>
      rintro D xs W hD3 rfl ⟨Q', F', qv', hI⟩ hK
      have hr := hI.run
      rw [show (List.finRange 4).map (·.val) = [0, 1, 2, 3] from by decide] at hr
      obtain ⟨f, rfl⟩ : ∃ g, f = g + 1 := ⟨f - 1, by omega⟩
      have hit : dbfs (bl s) (bl t) 3722 0 [((0, 0), [])] = dbfs (bl s) (bl t) f (at' + 1) Q' := by
        rw [Hit.out, dbfs, hQat]
        simp only [hr]
      have Hit2 := Lib.hid hit
      have hDlt : D < W.heap.size := (Array.getElem?_eq_some_iff.1 hK).1
      have hat2 := (List.getElem?_eq_some_iff.1 hI.here).1
      have hq'len := hI.dq.size (by rw [Hbs.out]; exact hs60) (by rw [Hbt.out]; exact ht60)
      clear hr hit
      gi_wp2
      go_wp2
      refine ⟨⟨_, _, _, _, _, _, _, _, _, _, _, _, _, at' + 1, f, D + 1, Q', F', qv', rfl, by omega, by omega, Hit2, hI.dq, hI.df, hI.ds, hB2.trans hI.below, ?_, hDlt⟩, ?_⟩
      · exact ⟨D, rfl, by omega, by omega, hK, (Marks.from_ hM2 hI.keeps).up (by omega)⟩
      · simp [intOf]; omega
    case stop =>
      rintro D c pr W hD3 ⟨rest, hrest⟩ ⟨rfl, fw, hfw, h4, hk, hb⟩ hK
      have hit : dbfs (bl s) (bl t) 3722 0 [((0, 0), [])] = fw := by
        obtain ⟨f, rfl⟩ : ∃ g, f = g + 1 := ⟨f - 1, by omega⟩
        rw [Hit.out, dbfs, hQat]
        simp only
        rw [show [0, 1, 2, 3] = (pr ++ rest).map (·.val) from by rw [hrest]; decide, List.map_append, drun_append, hfw]
      have Hit2 := Lib.hid hit
      clear hit
      gi_wp2
      refine leaves_marks2 (v := .string (str fw)) (_ :: ds) W (D + 1) ⟨D, rfl, by omega, by omega, hK, (Marks.from_ hM2 hk).up (by omega)⟩ (fun w' hb' => results_cell_string rfl _ _ (n + 2) _ rfl (h4.below hb' (by omega))) (fun w' hb' => ⟨?_, ?_⟩)
      · rw [Hit2.out]
      · rw [← Hn.out]; exact (hB2.trans hb).trans (hb'.mono (by omega))
  · have hrs : dbfs (bl s) (bl t) f at' Q = [] := by
      cases f with
      | zero => rfl
      | succ f => rw [dbfs, List.getElem?_eq_none (by omega)]
    have c4 := hD.h4.frozen 0
    have c44 := hD.h4.cell 0
    simp only [List.getElem?_toArray, List.getElem?_cons_zero] at c44
    go_wp2
    have h4' := hD.h4.set1 (.string ⟨#[]⟩)
    refine leaves_marks2 (v := .string ⟨#[]⟩) ds _ top (hM.set _ _) (fun w' hb => results_cell_string rfl _ _ (n + 2) _ rfl (h4'.below hb (by omega))) (fun w' hb => ⟨?_, ?_⟩)
    · rw [Hit.out, hrs]; rfl
    · rw [← Hn.out]; exact (hB.setCell (by simp) _).trans (hb.mono (by omega))
end Go.Proofs.Ytfjbodaakmapdaa

/-! ## Same -/
namespace Go.Proofs.Ytfjbodaakmapdaa
open Go.RowKit Go.Shelf Th Kit Go.Proofs.YtfjbodaakmapdaaW.PrintWords

/-- The first word that tells two words apart. -/
def dw (x y : List Nat) : List Nat := dbfs x y 3722 0 [((0, 0), [])]

theorem toList_ne {a b : ByteArray} (h : ¬ a = b) : (a.toList == b.toList) = false := by
  rw [beq_eq_false_iff_ne]
  intro e
  apply h
  apply ByteArray.ext
  apply Array.ext'
  simpa [ByteArray.toList_eq] using e

namespace Given
def thread_Differ.f (u w : ByteArray) : Option (ByteArray × Int) :=
  some (if isW u = true then (if isW w = true then (if u = w then (⟨#[]⟩, 6) else (str (dw (bl u) (bl w)), 0)) else (⟨#[]⟩, 2)) else (⟨#[]⟩, 2))
def thread_Same.f (u w : ByteArray) (n : Int) : Option (Bool × Int) :=
  some (if isW u = true then (if isW w = true then (if n < 0 then (false, 2) else (if u = w then (true, 0) else (decide (n < (dw (bl u) (bl w)).length), 0))) else (false, 2)) else (false, 2))
end Given

theorem differ_no1 (u t : ByteArray) (w : World) (hu : isW u = false) : Calls Try.prog 27 #[.string u, .string t] w (ItemPost ⟨#[]⟩ 2 w) := by
  have Hu := Lib.hid hu
  clear hu
  go_enter Try.func27, Try.ntmps27
  go_wp2_with fail
  refine (newWord_no u _ Hu.out).mono ?_
  rintro e w1 ⟨rfl, hB1⟩
  go_wp2_with fail
  refine (newWord_any t _).mono ?_
  rintro e w2 ⟨hB2, ⟨_, rfl, _⟩ | ⟨_, rfl⟩⟩
  · go_wp2
    go_ret2
    exact ⟨rfl, hB1.trans (hB2.mono hB1.size)⟩
  · go_wp2
    go_ret2
    exact ⟨rfl, hB1.trans (hB2.mono hB1.size)⟩

theorem differ_no2 (u t : ByteArray) (w : World) (hu : isW u = true) (ht : isW t = false) : Calls Try.prog 27 #[.string u, .string t] w (ItemPost ⟨#[]⟩ 2 w) := by
  have Hu := Lib.hid hu
  have Ht := Lib.hid ht
  clear hu ht
  go_enter Try.func27, Try.ntmps27
  go_wp2_with fail
  refine (newWord_yes u _ Hu.out).mono ?_
  rintro e w1 ⟨rfl, _, hB1⟩
  go_wp2_with fail
  refine (newWord_no t _ Ht.out).mono ?_
  rintro e w2 ⟨rfl, hB2⟩
  go_wp2
  go_ret2
  exact ⟨rfl, hB1.trans (hB2.mono hB1.size)⟩

theorem differ_yes (u t : ByteArray) (w : World) (hu : isW u = true) (ht : isW t = true) (r1 : ByteArray) (r2 : Int) (hr : (if u = t then ((⟨#[]⟩ : ByteArray), (6 : Int)) else (str (dw (bl u) (bl t)), 0)) = (r1, r2)) :
    Calls Try.prog 27 #[.string u, .string t] w (ItemPost r1 r2 w) := by
  obtain ⟨hu60, _⟩ := (isW_iff u).1 hu
  obtain ⟨ht60, _⟩ := (isW_iff t).1 ht
  have Hu := Lib.hid hu
  have Ht := Lib.hid ht
  have Hr := Lib.hid hr
  clear hu ht hr
  go_enter Try.func27, Try.ntmps27
  go_wp2_with fail
  refine (newWord_yes u _ Hu.out).mono ?_
  rintro e w1 ⟨rfl, hw1, hB1⟩
  go_wp2_with fail
  refine (newWord_yes t _ Ht.out).mono ?_
  rintro e w2 ⟨rfl, hw2, hB2⟩
  have hw1' := hw1.below hB2
  have hB := hB1.trans (hB2.mono hB1.size)
  clear hw1 hB1 hB2
  by_cases he : u = t
  · subst he
    have h := Hr.out
    rw [if_pos rfl] at h
    obtain ⟨rfl, rfl⟩ := Prod.mk.inj h
    clear h Hr
    go_wp2
    go_ret2
    exact ⟨rfl, hB⟩
  · have hne := toList_ne he
    have h := Hr.out
    rw [if_neg he] at h
    obtain ⟨rfl, rfl⟩ := Prod.mk.inj h
    clear h Hr he
    go_wp2_with fail
    refine (differ_any _ _ u t _ hw1' hw2 hu60 ht60).mono ?_
    rintro e w3 ⟨rfl, hB3⟩
    have hB4 := hB.trans (hB3.mono hB.size)
    clear hw1' hw2 hB hB3
    go_wp2
    go_ret2
    exact ⟨rfl, hB4⟩

theorem Given.thread_Differ.calls (a0 a1 : ByteArray) (r1 : ByteArray) (r2 : Int) (w : World) (h : Given.thread_Differ.f a0 a1 = some (r1, r2)) :
    Calls Try.prog 27 #[.string a0, .string a1] w fun e w' => e = .returned (.tuple #[.string r1, .int .i64 r2]) ∧ Below w.heap.size w w' := by
  show Calls Try.prog 27 #[.string a0, .string a1] w (ItemPost r1 r2 w)
  unfold Given.thread_Differ.f at h
  cases hu : isW a0 with
  | false =>
    rw [hu] at h
    obtain ⟨rfl, rfl⟩ : (⟨#[]⟩ : ByteArray) = r1 ∧ (2 : Int) = r2 := by simpa using h
    exact differ_no1 a0 a1 w hu
  | true =>
    cases ht : isW a1 with
    | false =>
      rw [hu, ht] at h
      obtain ⟨rfl, rfl⟩ : (⟨#[]⟩ : ByteArray) = r1 ∧ (2 : Int) = r2 := by simpa using h
      exact differ_no2 a0 a1 w hu ht
    | true =>
      rw [hu, ht, if_pos rfl, if_pos rfl] at h
      exact differ_yes a0 a1 w hu ht r1 r2 (Option.some.inj h)
end Go.Proofs.Ytfjbodaakmapdaa

/-! ## Same2 -/
namespace Go.Proofs.Ytfjbodaakmapdaa
open Go.RowKit Go.Shelf Th Kit Go.Proofs.YtfjbodaakmapdaaW.PrintWords

def SamePost (r1 : Bool) (r2 : Int) (w : World) (e : Ending) (w' : World) : Prop := e = .returned (.tuple #[.bool r1, .int .i64 r2]) ∧ Below w.heap.size w w'

theorem same_no1 (u t : ByteArray) (n : Int) (w : World) (hu : isW u = false) : Calls Try.prog 26 #[.string u, .string t, .int .i64 n] w (SamePost false 2 w) := by
  have Hu := Lib.hid hu
  clear hu
  go_enter Try.func26, Try.ntmps26
  go_wp2_with fail
  refine (newWord_no u _ Hu.out).mono ?_
  rintro e w1 ⟨rfl, hB1⟩
  go_wp2_with fail
  refine (newWord_any t _).mono ?_
  rintro e w2 ⟨hB2, ⟨_, rfl, _⟩ | ⟨_, rfl⟩⟩
  · go_wp2
    go_ret2
    exact ⟨rfl, hB1.trans (hB2.mono hB1.size)⟩
  · go_wp2
    go_ret2
    exact ⟨rfl, hB1.trans (hB2.mono hB1.size)⟩

theorem same_no2 (u t : ByteArray) (n : Int) (w : World) (hu : isW u = true) (ht : isW t = false) : Calls Try.prog 26 #[.string u, .string t, .int .i64 n] w (SamePost false 2 w) := by
  have Hu := Lib.hid hu
  have Ht := Lib.hid ht
  clear hu ht
  go_enter Try.func26, Try.ntmps26
  go_wp2_with fail
  refine (newWord_yes u _ Hu.out).mono ?_
  rintro e w1 ⟨rfl, _, hB1⟩
  go_wp2_with fail
  refine (newWord_no t _ Ht.out).mono ?_
  rintro e w2 ⟨rfl, hB2⟩
  go_wp2
  go_ret2
  exact ⟨rfl, hB1.trans (hB2.mono hB1.size)⟩

theorem same_yes (u t : ByteArray) (n : Int) (w : World) (hu : isW u = true) (ht : isW t = true) (r1 : Bool) (r2 : Int) (hr : (if n < 0 then (false, (2 : Int)) else (if u = t then (true, 0) else (decide (n < (dw (bl u) (bl t)).length), 0))) = (r1, r2)) :
    Calls Try.prog 26 #[.string u, .string t, .int .i64 n] w (SamePost r1 r2 w) := by
  obtain ⟨hu60, _⟩ := (isW_iff u).1 hu
  obtain ⟨ht60, _⟩ := (isW_iff t).1 ht
  have Hu := Lib.hid hu
  have Ht := Lib.hid ht
  have Hr := Lib.hid hr
  clear hu ht hr
  by_cases hn : n < 0
  · have h := Hr.out
    rw [if_pos hn] at h
    obtain ⟨rfl, rfl⟩ := Prod.mk.inj h
    clear h Hr
    go_enter Try.func26, Try.ntmps26
    go_wp2_with fail
    refine (newWord_yes u _ Hu.out).mono ?_
    rintro e w1 ⟨rfl, _, hB1⟩
    go_wp2_with fail
    refine (newWord_yes t _ Ht.out).mono ?_
    rintro e w2 ⟨rfl, _, hB2⟩
    go_wp2
    go_ret2
    exact ⟨rfl, hB1.trans (hB2.mono hB1.size)⟩
  · have h := Hr.out
    rw [if_neg hn] at h
    have Hr2 := Lib.hid h
    clear h Hr
    go_enter Try.func26, Try.ntmps26
    go_wp2_with fail
    refine (newWord_yes u _ Hu.out).mono ?_
    rintro e w1 ⟨rfl, hw1, hB1⟩
    go_wp2_with fail
    refine (newWord_yes t _ Ht.out).mono ?_
    rintro e w2 ⟨rfl, hw2, hB2⟩
    have hw1' := hw1.below hB2
    have hB := hB1.trans (hB2.mono hB1.size)
    clear hw1 hB1 hB2
    by_cases he : u = t
    · subst he
      have h := Hr2.out
      rw [if_pos rfl] at h
      obtain ⟨rfl, rfl⟩ := Prod.mk.inj h
      clear h Hr2
      go_wp2
      go_ret2
      exact ⟨rfl, hB⟩
    · have hne := toList_ne he
      have h := Hr2.out
      rw [if_neg he] at h
      obtain ⟨rfl, rfl⟩ := Prod.mk.inj h
      clear h Hr2 he
      have hcall := differ_any _ _ u t _ hw1' hw2 hu60 ht60
      go_wp2_with fail
      refine hcall.mono ?_
      rintro e w3 ⟨rfl, hB3⟩
      have hB4 := hB.trans (hB3.mono hB.size)
      clear hw1' hw2 hB hB3 hcall
      go_wp2
      go_ret2
      refine ⟨?_, hB4⟩
      show Ending.returned _ = _
      have e : ∀ (a b : Bool) (c : Int), a = b → Ending.returned (Value.tuple #[.bool a, .int .i64 c]) = .returned (.tuple #[.bool b, .int .i64 c]) := fun a b c h => by rw [h]
      exact e _ _ _ (by rw [str_size]; rfl)

theorem Given.thread_Same.calls (a0 a1 : ByteArray) (a2 : Int) (r1 : Bool) (r2 : Int) (w : World) (h : Given.thread_Same.f a0 a1 a2 = some (r1, r2)) :
    Calls Try.prog 26 #[.string a0, .string a1, .int .i64 a2] w fun e w' => e = .returned (.tuple #[.bool r1, .int .i64 r2]) ∧ Below w.heap.size w w' := by
  show Calls Try.prog 26 #[.string a0, .string a1, .int .i64 a2] w (SamePost r1 r2 w)
  unfold Given.thread_Same.f at h
  cases hu : isW a0 with
  | false =>
    rw [hu] at h
    obtain ⟨rfl, rfl⟩ : false = r1 ∧ (2 : Int) = r2 := by simpa using h
    exact same_no1 a0 a1 a2 w hu
  | true =>
    cases ht : isW a1 with
    | false =>
      rw [hu, ht] at h
      obtain ⟨rfl, rfl⟩ : false = r1 ∧ (2 : Int) = r2 := by simpa using h
      exact same_no2 a0 a1 a2 w hu ht
    | true =>
      rw [hu, ht, if_pos rfl, if_pos rfl] at h
      exact same_yes a0 a1 a2 w hu ht r1 r2 (Option.some.inj h)
end Go.Proofs.Ytfjbodaakmapdaa

/-! ## Entry -/
namespace Go.Proofs.Ytfjbodaakmapdaa.Kit
open Go.RowKit
open Go.ChangeMaps (setBlock)

variable {κ ν : Type} [DecidableEq κ] {P : Program} {K T E : TypeId} {kf : κ → Value} {vf : ν → Value} {ok : κ → Prop} {w w' : World} {b : Nat} {l : List (κ × ν)}

theorem ME.push {es : Array MapEntry} {clock : Nat} (m : ME kf vf ok es clock l) {k : κ} (hk : ok k) (hn : getL l k = none) (v : ν) : ME kf vf ok (es.push ⟨kf k, vf v, clock⟩) (clock + 1) (putL l k v) := by
  unfold putL
  rw [hn]
  have hn := getL_none.1 hn
  refine ⟨by simp [m.is], ?_, ?_, ?_, ?_⟩
  · intro e he
    simp only [Array.toList_push, List.mem_append, List.mem_singleton] at he
    rcases he with he | rfl
    · have := m.born e he; omega
    · simp
  · simp only [Array.toList_push, List.map_append, List.map_cons, List.map_nil]
    rw [List.nodup_append]
    refine ⟨m.apart, by simp, ?_⟩
    intro a ha c hc
    obtain ⟨e, he, rfl⟩ := List.mem_map.1 ha
    obtain rfl := List.mem_singleton.1 hc
    have := m.born e he; omega
  · simp only [Option.isSome_none, Bool.false_eq_true, if_false, List.map_append, List.map_cons, List.map_nil]
    rw [List.nodup_append]
    refine ⟨m.keys, by simp, ?_⟩
    intro a ha c hc
    obtain ⟨p, hp, rfl⟩ := List.mem_map.1 ha
    obtain rfl := List.mem_singleton.1 hc
    exact hn p hp
  · intro p hp
    simp only [Option.isSome_none, Bool.false_eq_true, if_false, List.mem_append, List.mem_singleton] at hp
    rcases hp with hp | rfl
    · exact m.ok p hp
    · exact hk

theorem putL_set {k : κ} {u : ν} (hn : (l.map (·.1)).Nodup) {j : Nat} (h3 : l[j]? = some (k, u)) (v : ν) : putL l k v = l.set j (k, v) := by
  unfold putL
  rw [getL_at hn h3]
  simp only [Option.isSome_some, if_true]
  apply List.ext_getElem?
  intro i
  rw [List.getElem?_map, List.getElem?_set]
  obtain ⟨hjl, hje⟩ := List.getElem?_eq_some_iff.1 h3
  by_cases hij : j = i
  · subst hij
    rw [if_pos rfl, if_pos hjl, h3]; simp
  · rw [if_neg hij]
    cases hi : l[i]? with
    | none => rfl
    | some p =>
      simp only [Option.map_some]
      rw [if_neg]
      intro e2
      obtain ⟨hil, hie⟩ := List.getElem?_eq_some_iff.1 hi
      have h4 : (l.map (·.1))[i]'(by simpa using hil) = (l.map (·.1))[j]'(by simpa using hjl) := by simp [hie, hje, e2]
      exact hij (nodup_inj hn _ _ h4).symm

theorem ME.set {es es' : Array MapEntry} {clock : Nat} (m : ME kf vf ok es clock l) {k : κ} {u : ν} (hk : ok k) {j : Nat} (h3 : l[j]? = some (k, u)) {e : MapEntry} (he : es[j]? = some e) (v : ν)
    (h : es'.toList = es.toList.set j { e with key := kf k, val := vf v }) : ME kf vf ok es' clock (putL l k v) := by
  have hj := (Array.getElem?_eq_some_iff.1 he).1
  have hbn : (es.toList.set j { e with key := kf k, val := vf v }).map (·.born) = es.toList.map (·.born) := by
    rw [List.map_set]
    apply List.ext_getElem?
    intro i
    rw [List.getElem?_set]
    by_cases hij : j = i
    · subst hij
      rw [if_pos rfl, if_pos (by simpa using hj), List.getElem?_map, Array.getElem?_toList, he]; rfl
    · rw [if_neg hij]
  rw [putL_set m.keys h3]
  refine ⟨?_, ?_, ?_, ?_, ?_⟩
  · rw [h, List.map_set, List.map_set, m.is]
  · rw [h]
    intro x hx
    have h5 : x.born ∈ (es.toList.set j { e with key := kf k, val := vf v }).map (·.born) := List.mem_map.2 ⟨x, hx, rfl⟩
    rw [hbn] at h5
    obtain ⟨y, hy, e3⟩ := List.mem_map.1 h5
    rw [← e3]; exact m.born y hy
  · rw [h, hbn]; exact m.apart
  · rw [List.map_set]
    have : (l.map (·.1)).set j k = l.map (·.1) := by
      apply List.ext_getElem?
      intro i
      rw [List.getElem?_set]
      by_cases hij : j = i
      · subst hij
        rw [if_pos rfl, List.getElem?_map, h3]
        simp [(List.getElem?_eq_some_iff.1 h3).1]
      · rw [if_neg hij]
    rw [this]; exact m.keys
  · intro p hp
    rcases List.mem_or_eq_of_mem_set hp with hp | rfl
    · exact m.ok p hp
    · exact hk

omit [DecidableEq κ] in
theorem toList_modify_at {es : Array MapEntry} {j : Nat} {e : MapEntry} (he : es[j]? = some e) (f : MapEntry → MapEntry) : (es.modify j f).toList = es.toList.set j (f e) := by
  have hj := (Array.getElem?_eq_some_iff.1 he).1
  rw [Array.toList_modify]
  apply List.ext_getElem?
  intro i
  rw [List.getElem?_modify, List.getElem?_set]
  by_cases hij : j = i
  · subst hij
    have : es.toList[j]? = some e := by simpa using he
    rw [this]; simp [hj]
  · cases es.toList[i]? <;> simp [hij]

theorem findBorn {es : Array MapEntry} (hn : (es.toList.map (·.born)).Nodup) {j : Nat} {e : MapEntry} (he : es[j]? = some e) : es.findIdx? (fun x => ((x.born : Nat) : Int) == ((e.born : Nat) : Int)) = some j := by
  obtain ⟨hj, hje⟩ := Array.getElem?_eq_some_iff.1 he
  rw [Array.findIdx?_eq_some_iff_getElem]
  refine ⟨hj, by rw [hje]; simp, fun i hi => ?_⟩
  have hne : es[i].born ≠ e.born := fun e1 => by
    have h4 : (es.toList.map (·.born))[i]'(by simp; omega) = (es.toList.map (·.born))[j]'(by simpa using hj) := by simp [hje, e1]
    have := nodup_inj hn _ _ h4
    omega
  simp; omega

theorem MB.entry (H : KF P K kf ok) (h : MB w b kf vf ok l) (ht : P.underlying T = some (.map K E)) {z : ν} (hz : ∀ u : World, (zeroValue E).run P u = .ok (vf z) u) (k : κ) (hk : ok k) :
    ∃ es1 clock1 st, (Instr.mapEntry T (.map (some b)) (kf k)).run P w = .ok (.tuple #[vf ((getL l k).getD z), goInt (st : Nat)]) (setBlock w b (.map es1 clock1)) ∧ MB (setBlock w b (.map es1 clock1)) b kf vf ok (putL l k ((getL l k).getD z)) ∧
      ∀ (w2 : World) (u : ν), w2.heap[b]? = some (.map es1 clock1) → ∃ es2 clock2, (Instr.entryStore T (.map (some b)) (goInt (st : Nat)) (vf u)).run P w2 = .ok () (setBlock w2 b (.map es2 clock2)) ∧ MB (setBlock w2 b (.map es2 clock2)) b kf vf ok (putL l k u) := by
  have hlt := h.lt
  obtain ⟨es, clock, hb, m⟩ := h.out
  obtain ⟨lx, hlx⟩ := H.key k hk
  rcases m.find H w k hk with ⟨h1, h2⟩ | ⟨j, v, h1, h3, h2⟩
  · rw [h2, Option.getD_none]
    have m1 := m.push hk h2 z
    refine ⟨es.push ⟨kf k, vf z, clock⟩, clock + 1, clock, ?_, ⟨_, _, heap_block hlt _, m1⟩, fun w2 u hw2 => ?_⟩
    · simp [Instr.mapEntry, run_underlying ht, MapKept.run_getObj_map hb, H.law.check w false hlx, h1, hz, MapKept.run_setObj_map _ hb, Result.andThen, setBlock]
    · have hat : (es.push ⟨kf k, vf z, clock⟩)[es.size]? = some ⟨kf k, vf z, clock⟩ := by simp
      have hidx := findBorn m1.apart hat
      refine ⟨(es.push ⟨kf k, vf z, clock⟩).modify es.size (fun e => { e with val := vf u }), clock + 1, ?_, ⟨_, _, heap_block (Array.getElem?_eq_some_iff.1 hw2).1 _, ?_⟩⟩
      · simp only at hidx
        simp [Instr.entryStore, MapKept.run_getObj_map hw2, asInt, asIntOf, goInt, hidx, MapKept.run_setObj_map _ hw2, Result.andThen, setBlock]
      · have e1 : (es.push ⟨kf k, vf z, clock⟩).modify es.size (fun e => { e with val := vf u }) = es.push ⟨kf k, vf u, clock⟩ := by
          apply Array.ext'
          rw [toList_modify_at hat, Array.toList_push, Array.toList_push, ← Array.length_toList, List.set_append_right _ _ (Nat.le_refl _)]
          simp
        rw [e1]
        exact m.push hk h2 u
  · rw [h2, Option.getD_some]
    obtain ⟨e, he, hek, hev⟩ := m.at h3
    have m1 := m.set hk h3 he v (es' := es.modify j fun e => { e with key := kf k }) (by
      rw [toList_modify_at he]
      have : ({ e with key := kf k } : MapEntry) = { e with key := kf k, val := vf v } := by rw [← hev]
      rw [this])
    have hs := H.law.stays w hlx
    refine ⟨es.modify j fun e => { e with key := kf k }, clock, e.born, ?_, ⟨_, _, heap_block hlt _, m1⟩, fun w2 u hw2 => ?_⟩
    · simp [Instr.mapEntry, run_underlying ht, MapKept.run_getObj_map hb, H.law.check w false hlx, h1, he, hek, hs, MapKept.run_setObj_map _ hb, Result.andThen, setBlock]
    · have hat : (es.modify j fun e => { e with key := kf k })[j]? = some { e with key := kf k } := by
        rw [← Array.getElem?_toList, toList_modify_at he, List.getElem?_set_self (by simpa using (Array.getElem?_eq_some_iff.1 he).1)]
      have hidx := findBorn m1.apart hat
      refine ⟨(es.modify j fun e => { e with key := kf k }).modify j (fun e => { e with val := vf u }), clock, ?_, ⟨_, _, heap_block (Array.getElem?_eq_some_iff.1 hw2).1 _, ?_⟩⟩
      · simp only at hidx
        simp [Instr.entryStore, MapKept.run_getObj_map hw2, asInt, asIntOf, goInt, hidx, MapKept.run_setObj_map _ hw2, Result.andThen, setBlock]
      · refine m.set hk h3 he u ?_
        rw [toList_modify_at hat, toList_modify_at he, List.set_set]
end Go.Proofs.Ytfjbodaakmapdaa.Kit

/-! ## Fam -/
namespace Go.Proofs.Ytfjbodaakmapdaa
open Go.RowKit Go.Shelf Th Kit Go.Proofs.YtfjbodaakmapdaaW.PrintWords

/-- A row of strings that is read. -/
structure SR (w : World) (A : Option Addr) (l : List ByteArray) : Prop where
  max : l.length ≤ 9223372036854775807
  at_ : ∀ i s, l[i]? = some s → ∃ ad, A = some ad ∧ w.cell? (ad.add i) = some (.string s)
theorem SR.of (w : World) (A : Option Addr) (l : List ByteArray) (h : Kd.C Kd.string w A l.length l) : SR w A l :=
  ⟨h.2.1, fun i s hi => by
    have hlt := (List.getElem?_eq_some_iff.1 hi).1
    obtain ⟨ad, e, hc⟩ := h.2.2 (by omega)
    obtain ⟨c, hl, hk, hcell⟩ := hc i s hi
    have hk' : c = [.string s] := hk
    subst hk'
    have := hcell 0 _ rfl
    refine ⟨ad, e, ?_⟩
    have hsz : i * Kd.string.sz + 0 = i := by show i * 1 + 0 = i; omega
    rw [hsz] at this
    exact this⟩
theorem SR.below {w w' : World} {A : Option Addr} {l : List ByteArray} (h : SR w A l) (hb : Below w.heap.size w w') : SR w' A l :=
  ⟨h.max, fun i s hi => by
    obtain ⟨ad, e, hc⟩ := h.at_ i s hi
    refine ⟨ad, e, ?_⟩
    have hlt : (ad.add i).block < w.heap.size := by
      by_cases hh : (ad.add i).block < w.heap.size
      · exact hh
      · unfold World.cell? at hc; rw [Array.getElem?_eq_none (by omega)] at hc; cases hc
    exact (hb.cell hlt).trans hc⟩

/-- A string that belongs to no family. -/
def badW (s : ByteArray) : Bool := !isW s || decide (8 < s.size)
def isFam (l : List ByteArray) : Bool := decide (l.length ≤ 4) && !(l.any badW)

theorem bad_any (s : ByteArray) (w : World) : Calls Try.prog 65 #[.string s] w fun e w' => e = .returned (.bool (badW s)) ∧ Below w.heap.size w w' := by
  cases hu : isW s with
  | false =>
    have Hu := Lib.hid hu
    clear hu
    go_enter Try.func65, Try.ntmps65
    go_wp2_with fail
    refine (newWord_no s _ Hu.out).mono ?_
    rintro e w1 ⟨rfl, hB1⟩
    go_wp2
    go_ret
    exact ⟨by unfold badW; rw [Hu.out]; rfl, hB1⟩
  | true =>
    have Hu := Lib.hid hu
    clear hu
    go_enter Try.func65, Try.ntmps65
    go_wp2_with fail
    refine (newWord_yes s _ Hu.out).mono ?_
    rintro e w1 ⟨rfl, _, hB1⟩
    go_wp2
    go_ret
    exact ⟨by unfold badW; rw [Hu.out]; simp; omega, hB1⟩

theorem idxBad_any (A : Option Addr) (c : Nat) (l : List ByteArray) (w : World) (hr : SR w A l) : Calls Try.prog 71 #[.slice A l.length c, .func (.func 65) #[] #[]] w fun e w' => ∃ i : Int, e = .returned (.int .i64 i) ∧ decide (0 ≤ i) = l.any badW ∧ -1 ≤ i ∧ i ≤ 9223372036854775807 ∧ Below w.heap.size w w' := by
  have hmax := hr.max
  go_enter Try.func71, Try.ntmps71
  go_wp2
  go_loopw [8] (fun v wr => ∃ k : Nat, v = .int .i64 k ∧ k ≤ l.length ∧ Aside0 ((l.take k).any badW = false) ∧ Aside0 (Below w.heap.size w wr)) (fun v _ => l.length - (intOf v).toNat)
  case atStart => exact ⟨0, rfl, Nat.zero_le _, ⟨rfl⟩, ⟨Below.refl _ _⟩⟩
  case round =>
    obtain ⟨k, rfl, hk, HT, HB⟩ := hrel
    by_cases hlt : k < l.length
    · obtain ⟨s, hs⟩ : ∃ s, l[k]? = some s := ⟨_, List.getElem?_eq_getElem hlt⟩
      obtain ⟨ad, rfl, hc⟩ := (hr.below HB.out).at_ k s hs
      have Hs := Lib.hid hs
      have hsmax : s.size ≤ 9223372036854775807 ∨ True := .inr trivial
      have hts : l.take (k + 1) = l.take k ++ [s] := by rw [List.take_add_one, hs]; rfl
      have Hts := Lib.hid hts
      clear hs hts hsmax
      cases hbad : badW s with
      | true =>
        have Hbad := Lib.hid hbad
        clear hbad
        go_wp2_with (go_at_call 65; refine (bad_any s _).mono ?_; rw [Hbad.out]; rintro e w' ⟨rfl, hB2⟩)
        go_ret
        have hany : l.any badW = true := List.any_eq_true.2 ⟨s, List.mem_of_getElem? Hs.out, Hbad.out⟩
        exact ⟨k, rfl, by rw [hany]; simp, by omega, by omega, HB.out.trans (hB2.mono HB.out.size)⟩
      | false =>
        have Hbad := Lib.hid hbad
        clear hbad
        go_wp2_with (go_at_call 65; refine (bad_any s _).mono ?_; rw [Hbad.out]; rintro e w' ⟨rfl, hB2⟩)
        go_roundw
        case rel => exact ⟨k + 1, by go_num, by omega, ⟨by rw [Hts.out, List.any_append, HT.out]; simp [Hbad.out]⟩, ⟨HB.out.trans (hB2.mono HB.out.size)⟩⟩
        case measure => simp [intOf]; omega
    · obtain rfl : k = l.length := by omega
      go_wp2
      go_ret
      have hany := HT.out
      rw [List.take_length] at hany
      exact ⟨-1, rfl, by rw [hany]; rfl, by omega, by omega, HB.out⟩

theorem isFamily_any (A : Option Addr) (c : Nat) (l : List ByteArray) (w : World) (hr : SR w A l) : Calls Try.prog 52 #[.slice A l.length c] w fun e w' => e = .returned (.bool (isFam l)) ∧ Below w.heap.size w w' := by
  have hmax := hr.max
  by_cases h4 : l.length ≤ 4
  · have h4' : (l.length : Int) ≤ 4 := by omega
    go_enter Try.func52, Try.ntmps52
    go_wp2_with (first | (go_at_call 71; refine (idxBad_any A c l _ hr).mono ?_; rintro e w' ⟨i, rfl, hi, hi1, hi2, hB2⟩) | go_in)
    go_ret
    exact ⟨by unfold isFam; simp [h4], hB2⟩
  · have h4' : ¬ (l.length : Int) ≤ 4 := by omega
    go_enter Try.func52, Try.ntmps52
    go_wp2
    go_ret
    exact ⟨by unfold isFam; simp [h4], Below.refl _ _⟩

def hasEmpty (l : List ByteArray) : Bool := l.any fun s => decide (s.size = 0)
theorem empty_of {s : ByteArray} (h : s.size = 0) : s = ⟨#[]⟩ := ByteArray.ext (Array.eq_empty_of_size_eq_zero h)

theorem notEmpty {s : ByteArray} (h : ¬ s.size = 0) : s.toList.isEmpty = false := by
  rw [ByteArray.toList_eq, List.isEmpty_eq_false_iff]
  intro e
  exact h (by show s.data.size = 0; rw [← Array.length_toList, e]; rfl)

theorem idxEmpty_any (A : Option Addr) (c : Nat) (l : List ByteArray) (w : World) (hr : SR w A l) : Calls Try.prog 72 #[.slice A l.length c, .string ⟨#[]⟩] w fun e w' => ∃ i : Int, e = .returned (.int .i64 i) ∧ decide (0 ≤ i) = hasEmpty l ∧ -1 ≤ i ∧ i ≤ 9223372036854775807 ∧ w = w' := by
  have hmax := hr.max
  go_enter Try.func72, Try.ntmps72
  go_wp2
  go_loopw [8] (fun v wr => ∃ k : Nat, v = .int .i64 k ∧ k ≤ l.length ∧ Aside0 (hasEmpty (l.take k) = false) ∧ wr = w) (fun v _ => l.length - (intOf v).toNat)
  case atStart => exact ⟨0, rfl, Nat.zero_le _, ⟨rfl⟩, rfl⟩
  case round =>
    obtain ⟨k, rfl, hk, HT, rfl⟩ := hrel
    by_cases hlt : k < l.length
    · obtain ⟨s, hs⟩ : ∃ s, l[k]? = some s := ⟨_, List.getElem?_eq_getElem hlt⟩
      obtain ⟨ad, rfl, hc⟩ := hr.at_ k s hs
      have Hs := Lib.hid hs
      have hts : l.take (k + 1) = l.take k ++ [s] := by rw [List.take_add_one, hs]; rfl
      have Hts := Lib.hid hts
      clear hs hts
      by_cases he : s.size = 0
      · obtain rfl := empty_of he
        clear he
        go_wp2
        go_ret
        have hany : hasEmpty l = true := List.any_eq_true.2 ⟨_, List.mem_of_getElem? Hs.out, rfl⟩
        exact ⟨k, rfl, by rw [hany]; simp, by omega, by omega, rfl⟩
      · have heq : s.toList.isEmpty = false := notEmpty he
        have He := Lib.hid he
        clear he
        go_wp2
        go_roundw
        case rel =>
          refine ⟨k + 1, by go_num, by omega, ⟨?_⟩, trivial⟩
          have h1 := HT.out
          unfold hasEmpty at h1 ⊢
          have h2 : decide (s.size = 0) = false := decide_eq_false He.out
          rw [Hts.out, List.any_append, h1, List.any_cons, h2]; rfl
        case measure => simp [intOf]; omega
    · obtain rfl : k = l.length := by omega
      go_wp2
      go_ret
      have hany := HT.out
      rw [List.take_length] at hany
      exact ⟨-1, rfl, by rw [hany]; rfl, by omega, by omega, rfl⟩

theorem contains_any (A : Option Addr) (c : Nat) (l : List ByteArray) (w : World) (hr : SR w A l) : Calls Try.prog 59 #[.slice A l.length c, .string ⟨#[]⟩] w fun e w' => e = .returned (.bool (hasEmpty l)) ∧ w = w' := by
  go_enter Try.func59, Try.ntmps59
  go_wp2_with fail
  refine (idxEmpty_any A c l _ hr).mono ?_
  rintro e w' ⟨i, rfl, hi, hi1, hi2, rfl⟩
  go_wp2
  go_ret
  rw [← hi]
  exact ⟨rfl, rfl⟩
end Go.Proofs.Ytfjbodaakmapdaa

/-! ## Marks -/
namespace Go.Proofs.Ytfjbodaakmapdaa
open Go.RowKit Go.Shelf Th Kit Go.Proofs.YtfjbodaakmapdaaW.PrintWords

def mksA (m : List Nat) : Array Value := (m.map fun x : Nat => Value.int .i64 x).toArray
def mksV (m : List Nat) : Value := .agg (mksA m)
def okK (m : List Nat) : Prop := m.length = 4 ∧ ∀ x ∈ m, x < 100
theorem kfMks : KF Try.prog 92 mksV okK where
  law := keyed92
  key m h := by
    obtain ⟨hl, hb⟩ := h
    match m, hl with
    | [a, b, c, d], _ => exact key92 a b c d (hb a (by simp)) (hb b (by simp)) (hb c (by simp)) (hb d (by simp))
  inj p q h := by
    simp only [mksV, mksA, Value.agg.injEq] at h
    have h2 := congrArg Array.toList h
    simp only at h2
    refine (List.map_inj_right (fun a b e => ?_)).1 h2
    simp only [Value.int.injEq, true_and] at e
    omega

theorem mksA_size (m : List Nat) : (mksA m).size = m.length := by simp [mksA]
theorem mksA_get (m : List Nat) (i : Nat) (h : i < m.length) : (mksA m)[i]? = some (.int .i64 (m[i] : Nat)) := by simp [mksA, h]
theorem mksA_set (m : List Nat) (i x : Nat) : (mksA m).setIfInBounds i (.int .i64 x) = mksA (m.set i x) := by
  simp [mksA, List.map_set]
theorem mksA_one (m : List Nat) : OneC (mksA m) := by
  unfold OneC mksA
  simp [Value.oneCell']

/-- The marks after a further letter. -/
def mgo (c : Nat) : List (List Nat) → List Nat → Nat → List Nat × Bool
  | [], m, _ => (m, true)
  | w :: ws, m, i => if w.getD (m.getD i 0) 0 = c then (if m.getD i 0 + 1 = w.length then (m.set i (m.getD i 0 + 1), false) else mgo c ws (m.set i (m.getD i 0 + 1)) (i + 1)) else mgo c ws m (i + 1)

/-- Marks of a family: none is complete. -/
def okm (l : List ByteArray) (m : List Nat) : Prop := m.length = 4 ∧ ∀ i (s : ByteArray), l[i]? = some s → m.getD i 0 < s.size

theorem results_after (tmps : Array Value) (w : World) (b : Nat) (cs : Array Value) (hp : tmps.getD 6 undef = .pointer (some ⟨b, 0, none⟩)) (hb : Blk w b cs 92) (hs : cs.size = 4) :
    (results Try.f60 tmps).run Try.prog w = .ok (.tuple #[.agg cs, tmps.getD 7 undef]) w := by
  rw [results_cell_tmp rfl, hp]
  simp only [asAddr, Sem.run_pure, Result.andThen_ok]
  rw [run_loadVar_row w b 92 92 cs (0, 0) _ hb.out Try.underlying92 rfl (by rw [hs]; kernel_rfl)]
  rfl

set_option maxRecDepth 100000 in
set_option maxHeartbeats 1000000 in
theorem mafter_any (A : Option Addr) (cp : Nat) (l : List ByteArray) (m : List Nat) (c : Nat) (w : World) (hr : SR w A l) (hl4 : l.length ≤ 4) (hl8 : ∀ s ∈ l, s.size ≤ 8) (hm : okm l m) :
    Calls Try.prog 60 #[mksV m, .slice A l.length cp, .int .u8 c] w fun e w' => e = .returned (.tuple #[mksV (mgo c (l.map bl) m 0).1, .bool (mgo c (l.map bl) m 0).2]) ∧ Below w.heap.size w w' := by
  have hm4 := hm.1
  have hz : (mksA m).size = 4 := by rw [mksA_size, hm4]
  have Hz := Lib.hid hz
  have Hm := Lib.hid hm
  clear hm hz
  show Calls Try.prog 60 #[.agg (mksA m), .slice A l.length cp, .int .u8 c] w _
  go_enter Try.func60, Try.ntmps60
  go_wp2
  go_loopw [12] (fun v wr => ∃ (i : Nat) (m' : List Nat), v = .int .i64 i ∧ i ≤ l.length ∧ Aside0 (mgo c (l.map bl) m 0 = mgo c ((l.drop i).map bl) m' i) ∧ Aside0 (okm l m') ∧ Aside0 (Below w.heap.size w wr) ∧ Blk wr w.heap.size (mksA m') 92 ∧ ∃ z, Blk wr (w.heap.size + 1) z 92 ∧ z.size = 4) (fun v _ => l.length - (intOf v).toNat)
  case atStart =>
    exact ⟨0, m, rfl, Nat.zero_le _, ⟨by simp⟩, ⟨Hm.out⟩, ⟨below_new2 _ _ _⟩, (Blk.new w (mksA m) 92).alloc _, _, Blk.new2 w _ _ 92, rfl⟩
  case round =>
    obtain ⟨i, m', rfl, hi, HG, HO, HB, hb, z, hz, hz4⟩ := hrel
    have Hz4 := Lib.hid hz4
    have hm'4 := HO.out.1
    have hA : (mksA m').size = 4 := by rw [mksA_size, hm'4]
    have HA := Lib.hid hA
    clear hz4 hA
    by_cases hlt : i < l.length
    · obtain ⟨s, hs⟩ : ∃ s, l[i]? = some s := ⟨_, List.getElem?_eq_getElem hlt⟩
      obtain ⟨ad, rfl, hc0⟩ := (hr.below HB.out).at_ i s hs
      have hx := HO.out.2 i s hs
      have hs8 := hl8 s (List.mem_of_getElem? hs)
      have hgd : m'.getD i 0 = m'[i]'(by omega) := by
        rw [List.getD_eq_getElem?_getD, List.getElem?_eq_getElem (by omega)]; rfl
      have hcm : wr.cell? ⟨w.heap.size, i, none⟩ = some (.int .i64 (m'.getD i 0 : Nat)) := by
        rw [hb.cell, mksA_get m' i (by omega), hgd]
      have hfm := hb.frozen i
      have hd : (l.drop i).map bl = bl s :: (l.drop (i + 1)).map bl := by
        obtain ⟨h1, h2⟩ := List.getElem?_eq_some_iff.1 hs
        rw [List.drop_eq_getElem_cons h1, h2]; rfl
      have hbg : (bl s).getD (m'.getD i 0) 0 = s[m'.getD i 0].toNat := by
        rw [List.getD_eq_getElem?_getD, List.getElem?_eq_getElem (by rw [bl_len]; exact hx), Option.getD_some, bl_get s _ hx]
      have Hd := Lib.hid hd
      have Hs := Lib.hid hs
      have Hbg := Lib.hid hbg
      have Hgd := Lib.hid hgd
      clear hd hs hbg hgd
      generalize hxx : m'.getD i 0 = x at *
      have Hx := Lib.hid hxx
      clear hxx
      have hi4 : (i : Int) < 4 := by omega
      by_cases hq : (s[x].toNat : Int) = (c : Int)
      · have hb2 := (hb.set i (.int .i64 ((x : Int) + 1))).as (by rw [show ((x : Int) + 1) = ((x + 1 : Nat) : Int) by omega, mksA_set])
        have hz2 := hz.other ⟨w.heap.size, i, none⟩ (by simp) (.int .i64 ((x : Int) + 1))
        have hA2 : (mksA (m'.set i (x + 1))).size = 4 := by rw [mksA_size, List.length_set, hm'4]
        have HA2 := Lib.hid hA2
        have hstep : mgo c ((l.drop i).map bl) m' i = if x + 1 = s.size then (m'.set i (x + 1), false) else mgo c ((l.drop (i + 1)).map bl) (m'.set i (x + 1)) (i + 1) := by
          rw [Hd.out, mgo, Hx.out, Hbg.out, if_pos (by omega), bl_len]
        have Hstep := Lib.hid hstep
        clear hA2 hstep
        by_cases hend : (x : Int) + 1 = (s.size : Int)
        · rw [hend] at hb2 hz2
          go_wp2_with (first | (refine wpList_load_row rfl 92 (.tmp 3) rfl w.heap.size rfl 92 _ (0, 0) _ hb2.out Try.underlying92 rfl (by rw [HA2.out]; kernel_rfl) ?_) | (refine wpList_store_mid rfl 92 (.tmp 6) (.tmp 35) rfl (w.heap.size + 1) 0 _ rfl rfl (hz2.there (by rw [Hz4.out, HA2.out]; omega)) (by rw [HA2.out]; kernel_rfl) (mksA_one _) ?_))
          have hb3 := hz2.puts (mksA (m'.set i (x + 1))).toList 0
          rw [put_all _ _ (by rw [Hz4.out, HA2.out])] at hb3
          refine bodyPost_ret (results_after _ _ (w.heap.size + 1) _ rfl hb3 HA2.out) rfl ?_
          have h := Hstep.out
          rw [if_pos (by omega)] at h
          rw [HG.out, h]
          exact ⟨rfl, below_setCells _ _ (by simp) ((HB.out).setCell (by simp) _)⟩
        · go_wp2
          go_roundw
          case rel =>
            refine ⟨i + 1, m'.set i (x + 1), by go_num, by omega, ⟨?_⟩, ⟨?_⟩, ⟨(HB.out).setCell (by simp) _⟩, hb2, z, hz2, Hz4.out⟩
            · have h := Hstep.out
              rw [if_neg (by omega)] at h
              rw [HG.out, h]
            · refine ⟨by rw [List.length_set, hm'4], fun j s' hs' => ?_⟩
              by_cases hj : j = i
              · subst hj
                rw [Hs.out] at hs'
                cases hs'
                rw [List.getD_eq_getElem?_getD, List.getElem?_set_self (by omega)]; simp; omega
              · rw [List.getD_eq_getElem?_getD, List.getElem?_set_ne (by omega), ← List.getD_eq_getElem?_getD]
                exact HO.out.2 j s' hs'
          case measure => simp [intOf]; omega
      · go_wp2
        go_roundw
        case rel =>
          refine ⟨i + 1, m', by go_num, by omega, ⟨?_⟩, HO, HB, hb, z, hz, Hz4.out⟩
          rw [HG.out, Hd.out, mgo, Hx.out, Hbg.out, if_neg (by omega)]
        case measure => simp [intOf]; omega
    · obtain rfl : i = l.length := by omega
      go_wp2_with (first | (refine wpList_load_row rfl 92 (.tmp 3) rfl w.heap.size rfl 92 _ (0, 0) _ hb.out Try.underlying92 rfl (by rw [HA.out]; kernel_rfl) ?_) | (refine wpList_store_mid rfl 92 (.tmp 6) (.tmp 37) rfl (w.heap.size + 1) 0 _ rfl rfl (hz.there (by rw [Hz4.out, HA.out]; omega)) (by rw [HA.out]; kernel_rfl) (mksA_one _) ?_))
      have hb3 := hz.puts (mksA m').toList 0
      rw [put_all _ _ (by rw [Hz4.out, HA.out])] at hb3
      refine bodyPost_ret (results_after _ _ (w.heap.size + 1) _ rfl hb3 HA.out) rfl ?_
      rw [HG.out, List.drop_length, List.map_nil, mgo]
      exact ⟨rfl, below_setCells _ _ (by simp) HB.out⟩
end Go.Proofs.Ytfjbodaakmapdaa

/-! ## FreeP -/
namespace Go.Proofs.Ytfjbodaakmapdaa
open Go.RowKit Th Kit

abbrev MM := List (List Nat × Nat)

/-- What a letter adds. -/
def wterm (ws : List (List Nat)) (f : List Nat → Nat) (m : List Nat) (c : Nat) : Nat := if (mgo (97 + c) ws m 0).2 = true then f (mgo (97 + c) ws m 0).1 else 0
def wpart (ws : List (List Nat)) (f : List Nat → Nat) (m : List Nat) : Nat → Nat
  | 0 => 0
  | c + 1 => wpart ws f m c + wterm ws f m c
/-- How many words of length n of the first k letters complete no word of the family from these marks on. -/
def wcount (ws : List (List Nat)) (k : Nat) : Nat → List Nat → Nat
  | 0, _ => 1
  | n + 1, m => wpart ws (wcount ws k n) m k

theorem wpart_le (ws : List (List Nat)) (f : List Nat → Nat) (m : List Nat) (b : Nat) (hf : ∀ m, f m ≤ b) : ∀ c, wpart ws f m c ≤ c * b
  | 0 => by simp [wpart]
  | c + 1 => by
    have := wpart_le ws f m b hf c
    have h2 : wterm ws f m c ≤ b := by
      unfold wterm; split
      · exact hf _
      · omega
    rw [wpart, Nat.succ_mul]; omega
theorem wcount_le (ws : List (List Nat)) (k : Nat) : ∀ n m, wcount ws k n m ≤ k ^ n
  | 0, _ => by simp [wcount]
  | n + 1, m => by
    have := wpart_le ws (wcount ws k n) m (k ^ n) (wcount_le ws k n) k
    rw [wcount, Nat.pow_succ, Nat.mul_comm]; exact this

/-- The words that a whole map of marks stands for. -/
def tot (ws : List (List Nat)) (k j : Nat) : MM → Nat
  | [] => 0
  | p :: M => p.2 * wcount ws k j p.1 + tot ws k j M
theorem tot_append (ws : List (List Nat)) (k j : Nat) : ∀ (a b : MM), tot ws k j (a ++ b) = tot ws k j a + tot ws k j b
  | [], b => by simp [tot]
  | p :: a, b => by rw [List.cons_append, tot, tot, tot_append ws k j a b]; omega
theorem tot_out (ws : List (List Nat)) (k j : Nat) (a c : MM) (x : List Nat × Nat) : tot ws k j (a ++ x :: c) = tot ws k j (a ++ c) + x.2 * wcount ws k j x.1 := by
  rw [tot_append, tot_append, tot]; omega

theorem getL_split {l : MM} {k : List Nat} {v : Nat} (hn : (l.map (·.1)).Nodup) (h : getL l k = some v) : ∃ a c, l = a ++ (k, v) :: c ∧ ∀ x, putL l k x = a ++ (k, x) :: c := by
  have h' := h
  unfold getL at h
  obtain ⟨p, hp, rfl⟩ := Option.map_eq_some_iff.1 h
  have hk := List.find?_some hp
  simp only [decide_eq_true_eq] at hk
  have hm := List.mem_of_find?_eq_some hp
  obtain ⟨a, c, rfl⟩ := List.append_of_mem hm
  obtain ⟨pk, pv⟩ := p
  simp only at hk
  subst hk
  refine ⟨a, c, rfl, fun x => ?_⟩
  rw [putL_set hn (j := a.length) (u := pv) (by simp)]
  simp

theorem tot_put (ws : List (List Nat)) (k j : Nat) (l : MM) (t : List Nat) (x : Nat) (hn : (l.map (·.1)).Nodup) : tot ws k j (putL l t ((getL l t).getD 0 + x)) = tot ws k j l + x * wcount ws k j t := by
  cases h : getL l t with
  | none =>
    unfold putL
    rw [h]
    simp only [Option.isSome_none, Bool.false_eq_true, if_false, Option.getD_none, Nat.zero_add]
    rw [tot_append, tot, tot]; simp only; omega
  | some v =>
    obtain ⟨a, c, rfl, hp⟩ := getL_split hn h
    rw [hp, tot_out, tot_out, Option.getD_some]
    simp only
    rw [Nat.add_mul]; omega
theorem get_le (ws : List (List Nat)) (k : Nat) (l : MM) (t : List Nat) (hn : (l.map (·.1)).Nodup) : (getL l t).getD 0 ≤ tot ws k 0 l := by
  cases h : getL l t with
  | none => simp
  | some v =>
    obtain ⟨a, c, rfl, hp⟩ := getL_split hn h
    rw [tot_out, Option.getD_some]
    simp only [wcount]
    omega

/-- Marks of a family, small. -/
def okq (l : List ByteArray) (m : List Nat) : Prop := okK m ∧ okm l m

theorem mgo_length (c : Nat) : ∀ (ws : List (List Nat)) (m : List Nat) (i : Nat), (mgo c ws m i).1.length = m.length
  | [], m, i => rfl
  | w :: ws, m, i => by
    rw [mgo]
    split
    · split
      · simp
      · rw [mgo_length c ws]; simp
    · exact mgo_length c ws m (i + 1)

theorem mgo_small (c : Nat) : ∀ (ws : List (List Nat)) (m : List Nat) (i : Nat), (∀ w ∈ ws, w.length ≤ 8) → (∀ j w, ws[j]? = some w → m.getD (i + j) 0 < w.length) → (∀ x ∈ m, x < 100) → ∀ x ∈ (mgo c ws m i).1, x < 100
  | [], m, i, _, _, h => h
  | w :: ws, m, i, h8, hlt, h => by
    have h0 := hlt 0 w rfl
    have hw := h8 w (by simp)
    have hset : ∀ x ∈ m.set i (m.getD i 0 + 1), x < 100 := fun x hx => by
      rcases List.mem_or_eq_of_mem_set hx with hx | rfl
      · exact h x hx
      · simp only [Nat.add_zero] at h0; omega
    rw [mgo]
    split
    · split
      · exact hset
      · refine mgo_small c ws _ (i + 1) (fun w hw => h8 w (by simp [hw])) (fun j w' hj => ?_) hset
        have := hlt (j + 1) w' (by simpa using hj)
        rw [List.getD_eq_getElem?_getD, List.getElem?_set_ne (by omega), ← List.getD_eq_getElem?_getD, show i + 1 + j = i + (j + 1) by omega]
        exact this
    · exact mgo_small c ws m (i + 1) (fun w hw => h8 w (by simp [hw])) (fun j w' hj => by
        have := hlt (j + 1) w' (by simpa using hj)
        rw [show i + 1 + j = i + (j + 1) by omega]; exact this) h

theorem mgo_ok (c : Nat) : ∀ (ws : List (List Nat)) (m : List Nat) (i : Nat), i + ws.length ≤ m.length → (∀ j w, ws[j]? = some w → m.getD (i + j) 0 < w.length) → (mgo c ws m i).2 = true →
    (∀ j w, ws[j]? = some w → (mgo c ws m i).1.getD (i + j) 0 < w.length) ∧ ∀ j, j < i → (mgo c ws m i).1.getD j 0 = m.getD j 0
  | [], m, i, _, _, _ => ⟨fun j w h => by simp at h, fun _ _ => rfl⟩
  | w :: ws, m, i, hil, hlt, hok => by
    have h0 := hlt 0 w rfl
    simp only [Nat.add_zero] at h0
    simp only [List.length_cons] at hil
    rw [mgo] at hok ⊢
    split at hok
    · rename_i hc
      rw [if_pos hc]
      split at hok
      · cases hok
      · rename_i hne
        rw [if_neg hne]
        obtain ⟨h1, h2⟩ := mgo_ok c ws (m.set i (m.getD i 0 + 1)) (i + 1) (by simp; omega) (fun j w' hj => by
          have := hlt (j + 1) w' (by simpa using hj)
          rw [List.getD_eq_getElem?_getD, List.getElem?_set_ne (by omega), ← List.getD_eq_getElem?_getD, show i + 1 + j = i + (j + 1) by omega]
          exact this) hok
        refine ⟨fun j w' hj => ?_, fun j hj => ?_⟩
        · cases j with
          | zero =>
            simp only [List.getElem?_cons_zero, Option.some.injEq] at hj
            subst hj
            have h3 := h2 i (by omega)
            rw [List.getD_eq_getElem?_getD (l := m.set i _), List.getElem?_set_self (by omega), Option.getD_some] at h3
            show (mgo c ws (m.set i (m.getD i 0 + 1)) (i + 1)).1.getD i 0 < w.length
            omega
          | succ j =>
            have := h1 j w' (by simpa using hj)
            rw [show i + (j + 1) = i + 1 + j by omega]; exact this
        · rw [h2 j (by omega), List.getD_eq_getElem?_getD, List.getElem?_set_ne (by omega), ← List.getD_eq_getElem?_getD]
    · rename_i hc
      rw [if_neg hc]
      obtain ⟨h1, h2⟩ := mgo_ok c ws m (i + 1) (by omega) (fun j w' hj => by
        have := hlt (j + 1) w' (by simpa using hj)
        rw [show i + 1 + j = i + (j + 1) by omega]; exact this) hok
      refine ⟨fun j w' hj => ?_, fun j hj => h2 j (by omega)⟩
      cases j with
      | zero =>
        simp only [List.getElem?_cons_zero, Option.some.injEq] at hj
        subst hj
        show (mgo c ws m (i + 1)).1.getD i 0 < w.length
        rw [h2 i (by omega)]; exact h0
      | succ j =>
        have := h1 j w' (by simpa using hj)
        rw [show i + (j + 1) = i + 1 + j by omega]; exact this

theorem okq_go {l : List ByteArray} {m : List Nat} (h : okq l m) (hl : l.length ≤ 4) (h8 : ∀ s ∈ l, s.size ≤ 8) (c : Nat) (hok : (mgo c (l.map bl) m 0).2 = true) : okq l (mgo c (l.map bl) m 0).1 := by
  obtain ⟨⟨h4, hs⟩, _, hm⟩ := h
  have hlt : ∀ j w, (l.map bl)[j]? = some w → m.getD (0 + j) 0 < w.length := fun j w hj => by
    rw [List.getElem?_map] at hj
    obtain ⟨s, hs', rfl⟩ := Option.map_eq_some_iff.1 hj
    rw [bl_len, Nat.zero_add]; exact hm j s hs'
  have h8' : ∀ w ∈ l.map bl, w.length ≤ 8 := fun w hw => by
    obtain ⟨s, hs', rfl⟩ := List.mem_map.1 hw
    rw [bl_len]; exact h8 s hs'
  have h1 := mgo_length c (l.map bl) m 0
  refine ⟨⟨by rw [h1, h4], mgo_small c _ m 0 h8' hlt hs⟩, by rw [h1, h4], fun i s hi => ?_⟩
  have := (mgo_ok c (l.map bl) m 0 (by simp; omega) hlt hok).1 i (bl s) (by rw [List.getElem?_map, hi]; rfl)
  rw [bl_len, Nat.zero_add] at this
  exact this
end Go.Proofs.Ytfjbodaakmapdaa

/-! ## FreeW -/
namespace Go.Proofs.Ytfjbodaakmapdaa
open Go.RowKit Go.Shelf Th Kit Go.Proofs.YtfjbodaakmapdaaW.PrintWords
open Go.ChangeMaps (setBlock)

/-! ### Operations on maps, for the walk -/
section
variable {κ ν : Type} [DecidableEq κ] {P : Program} {w : World} {ops : Array Oper} {rest : List Oper} {o : Oper} {a : Act} {Q : Exit → Act → World → Prop} {K E : TypeId} {kf : κ → Value} {vf : ν → Value} {ok : κ → Prop} {b r : Nat} {l left : List (κ × ν)}
theorem wpList_mapset (hg : o.guard = none) (m x v : Operand) (t : TypeId) (hop : o.op = Op.mapUpdate t m x v) (H : KF P K kf ok) (h : MB w b kf vf ok l) (ht : P.underlying t = some (.map K E))
    (k : κ) (hk : ok k) (u : ν) (hm : a.eval m = .map (some b)) (hx : a.eval x = kf k) (hv : a.eval v = vf u)
    (hK : ∀ es clock, MB (setBlock w b (.map es clock)) b kf vf ok (putL l k u) → wpList P ops Q rest (a.put o.dst undef) (setBlock w b (.map es clock))) : wpList P ops Q (o :: rest) a w := by
  refine wpList_plain hg fun K' hK' => ?_
  obtain ⟨es, clock, hrun, hm2⟩ := h.store H ht k hk u
  unfold Oper.wp
  simp only [execOp, hop, hm, hx, hv, Sem.run_bind, Sem.run_pure, hrun, Result.andThen_ok]
  exact hK' _ _ (hK es clock hm2)
omit [DecidableEq κ] in
theorem wpList_range_mb (hg : o.guard = none) (m : Operand) (t : TypeId) (hop : o.op = Op.range t m) (h : MB w b kf vf ok l) (ht : P.underlying t = some (.map K E)) (hm : a.eval m = .map (some b))
    (hK : ∀ w', MR w' b w.heap.size kf vf ok l l → Below w.heap.size w w' → w'.heap.size = w.heap.size + 1 → wpList P ops Q rest (a.put o.dst (.pointer (some ⟨w.heap.size, 0, none⟩))) w') : wpList P ops Q (o :: rest) a w := by
  refine wpList_plain hg fun K' hK' => ?_
  obtain ⟨w', hrun, h1, h2, h3⟩ := h.range ht
  unfold Oper.wp
  simp only [execOp, hop, hm, Sem.run_bind, Sem.run_pure, hrun, Result.andThen_ok]
  exact hK' _ _ (hK w' h1 h2 h3)
omit [DecidableEq κ] in
theorem wpList_next_mr (hg : o.guard = none) (it : Operand) (hop : o.op = Op.next it false) (hit : a.eval it = .pointer (some ⟨r, 0, none⟩)) (h : MR w b r kf vf ok l left)
    (hDone : left = [] → wpList P ops Q rest (a.put o.dst (.tuple #[.bool false])) w)
    (hMore : ∀ (p : List (κ × ν)) (x : κ × ν) (c : List (κ × ν)) (w' : World), left = p ++ x :: c → MR w' b r kf vf ok l (p ++ c) → w.grownBy w' (some r) → w'.heap.size = w.heap.size →
      (Instr.entry (.pointer (some ⟨r, 0, none⟩))).run P w' = .ok (.tuple #[kf x.1, vf x.2]) w' → wpList P ops Q rest (a.put o.dst (.tuple #[.bool true, kf x.1, vf x.2])) w') : wpList P ops Q (o :: rest) a w := by
  refine wpList_plain hg fun K' hK' => ?_
  unfold Oper.wp
  rcases h.next (P := P) o.type with ⟨h0, hrun⟩ | ⟨p, x, c, w', e, hrun, h1, h2, h3, _, h5⟩
  · simp only [execOp, hop, hit, Sem.run_bind, Sem.run_pure, hrun, Result.andThen_ok]
    exact hK' _ _ (hDone h0)
  · simp only [execOp, hop, hit, Sem.run_bind, Sem.run_pure, hrun, Result.andThen_ok]
    exact hK' _ _ (hMore p x c w' e h1 h2 h3 h5)
omit [DecidableEq κ] in
theorem Kit.MR.left_eq (h : MR w b r kf vf ok l left) : w.rangeLeft b r = left.length := by
  obtain ⟨es, clock, seen, hb, _, hr, hl⟩ := h.out
  unfold World.rangeLeft
  rw [hb, hr]
  have := congrArg List.length hl
  simpa using this
end

def vN (n : Nat) : Value := .int .i64 n
theorem kfq (l : List ByteArray) : KF Try.prog 92 mksV (okq l) where
  law := keyed92
  key m h := kfMks.key m h.1
  inj := kfMks.inj

/-- The number of words of length j, of the first k letters, without a word of the family. -/
def fbase (l : List ByteArray) (k j : Nat) : Nat := if hasEmpty l = true then 0 else wcount (l.map bl) k j [0, 0, 0, 0]
def freeOut (l : List ByteArray) (k n : Nat) : List Nat := (List.range (n + 1)).map (fbase l k)

theorem own_ne_obj {W : World} {B e b : Nat} {v : Value} {ok : Nat → Prop} {xs : List Int} {o : Obj} (h : Kd.R (Kd.int .i64) e W B ok v xs) (hb : W.heap[b]? = some o) (hc : o.isCells = false) : some b ≠ v.ownBlock := by
  intro e1
  obtain ⟨inner, ho⟩ := Kd.R_own h
  obtain ⟨c, fz, h1⟩ := own_kind ho b e1.symm
  rw [hb] at h1
  cases h1
  cases hc
theorem Kit.MB.obj {κ ν : Type} {w : World} {b : Nat} {kf : κ → Value} {vf : ν → Value} {ok : κ → Prop} {l : List (κ × ν)} (h : MB w b kf vf ok l) : ∃ o : Obj, w.heap[b]? = some o ∧ o.isCells = false := by
  obtain ⟨es, clock, hb, _⟩ := h.out
  exact ⟨_, hb, rfl⟩

theorem fbase_le (l : List ByteArray) (k j : Nat) (hk : k ≤ 4) (hj : j ≤ 31) : fbase l k j ≤ 4611686018427387904 := by
  unfold fbase
  split
  · omega
  · refine Nat.le_trans (wcount_le _ k j _) (Nat.le_trans (Nat.pow_le_pow_left hk j) (Nat.le_trans (Nat.pow_le_pow_right (by omega) hj) (by decide)))

theorem Kit.MR.okL {κ ν : Type} {P : Program} {K : TypeId} {w : World} {b r : Nat} {kf : κ → Value} {vf : ν → Value} {ok : κ → Prop} {l left : List (κ × ν)} (H : KF P K kf ok) (h : MR w b r kf vf ok l left) : ∀ x ∈ left, ok x.1 := by
  intro x hx
  obtain ⟨es, clock, seen, _, m, _, hl⟩ := h.out
  have h1 : (kf x.1, vf x.2) ∈ (leftOf es seen).toList.map (fun e => (e.key, e.val)) := by
    rw [hl]; exact List.mem_map.2 ⟨x, hx, rfl⟩
  obtain ⟨e, he, h2⟩ := List.mem_map.1 h1
  have hem : e ∈ es.toList := by
    unfold leftOf at he; simp at he ⊢; exact he.1
  have h3 : (e.key, e.val) ∈ l.map (fun p => (kf p.1, vf p.2)) := by
    rw [← m.is]; exact List.mem_map.2 ⟨e, hem, rfl⟩
  obtain ⟨p, hp, h4⟩ := List.mem_map.1 h3
  rw [h2] at h4
  rw [← H.inj _ _ (Prod.mk.inj h4).1]
  exact m.ok p hp
theorem wpart_mono (ws : List (List Nat)) (f : List Nat → Nat) (m : List Nat) (c : Nat) : ∀ d, wpart ws f m c ≤ wpart ws f m (c + d)
  | 0 => Nat.le_refl _
  | d + 1 => by
    have := wpart_mono ws f m c d
    rw [← Nat.add_assoc, wpart]; omega

theorem getL_putL (l : MM) (t : List Nat) (v : Nat) : getL (putL l t v) t = some v := by
  unfold putL
  cases h : getL l t with
  | none =>
    have h1 := getL_none.1 h
    simp only [Option.isSome_none, Bool.false_eq_true, if_false]
    unfold getL
    rw [List.find?_append, List.find?_eq_none.2 (by simpa using h1)]
    simp
  | some u =>
    simp only [Option.isSome_some, if_true]
    unfold getL at h ⊢
    rw [List.find?_map]
    obtain ⟨p, hp, _⟩ := Option.map_eq_some_iff.1 h
    have hpk := List.find?_some hp
    have e : ((fun p : List Nat × Nat => decide (p.1 = t)) ∘ fun p => if p.1 = t then (t, v) else p) = fun p => decide (p.1 = t) := by
      funext p
      simp only [Function.comp]
      by_cases hq : p.1 = t
      · simp [hq]
      · simp [hq]
    rw [e, hp]
    simp only [decide_eq_true_eq] at hpk
    simp [hpk]

set_option maxRecDepth 100000 in
set_option maxHeartbeats 2000000 in
theorem free_walk (A : Option Addr) (cp : Nat) (l : List ByteArray) (k n : Nat) (w : World) (hr : SR w A l) (hf : isFam l = true) (hk : 1 ≤ k ∧ k ≤ 4) (hn : n ≤ 30) :
    Calls Try.prog 36 #[.slice A l.length cp, .int .i64 k, .int .i64 n] w (WithinPost (zs (freeOut l k n)) 0 w) := by
  obtain ⟨hk1, hk2⟩ := hk
  have Hf := Lib.hid hf
  have hl4 : l.length ≤ 4 := by
    have := Hf.out
    unfold isFam at this
    simp only [Bool.and_eq_true, decide_eq_true_eq] at this
    exact this.1
  have hl8 : ∀ s ∈ l, s.size ≤ 8 := fun s hs => by
    have := Hf.out
    unfold isFam at this
    simp only [Bool.and_eq_true, decide_eq_true_eq, Bool.not_eq_true', List.any_eq_false] at this
    have h2 := this.2 s hs
    unfold badW at h2
    simp only [Bool.or_eq_true, Bool.not_eq_true', decide_eq_true_eq, not_or] at h2
    omega
  have Hl8 := Lib.hid hl8
  have hkr : (decide ((1 : Int) ≤ (k : Int)) && decide ((k : Int) ≤ 4)) = true := by simp; omega
  have hnr : (decide ((0 : Int) ≤ (n : Int)) && decide ((n : Int) ≤ 30)) = true := by simp; omega
  have Hkr := Lib.hid hkr
  have Hnr := Lib.hid hnr
  clear hf hl8 hkr hnr
  have hmm := @run_makeMap Try.prog
  go_enter Try.func36, Try.ntmps36
  go_wp2_with fail
  refine (isFamily_any A cp l _ hr).mono ?_
  rw [Hf.out]
  rintro e w1 ⟨rfl, hB1⟩
  go_wp2_with fail
  refine (within_any _ _ _ true _ Hkr.out).mono ?_
  rintro e w1' ⟨rfl, rfl⟩
  go_wp2_with fail
  refine (within_any _ _ _ true _ Hnr.out).mono ?_
  rintro e w1' ⟨rfl, rfl⟩
  go_wp2_with fail
  have hr1 := (hr.below hB1).below ((Below.refl _ w1).alloc (Nat.le_refl _) (.map #[] 0))
  refine (contains_any A cp l _ hr1).mono ?_
  rintro e w2 ⟨rfl, rfl⟩
  have hm0 := MB.new w1 mksV vN (okq l)
  have hB2 := hB1.alloc hB1.size (.map #[] 0)
  have Hhr := Lib.hid hr
  have hs1 := hB1.size
  have hsm : (w1.alloc (.map #[] 0)).heap.size = w1.heap.size + 1 := by simp
  clear hr1 hmm
  cases hE : hasEmpty l
  · have HE := Lib.hid hE
    clear hE
    have hok : okq l [0, 0, 0, 0] := ⟨⟨rfl, by simp⟩, rfl, fun i s hi => by
      have h1 := HE.out
      unfold hasEmpty at h1
      rw [List.any_eq_false] at h1
      have h2 := h1 s (List.mem_of_getElem? hi)
      have h3 : ([0, 0, 0, 0] : List Nat).getD i 0 = 0 := by
        match i with
        | 0 => rfl
        | 1 => rfl
        | 2 => rfl
        | 3 => rfl
        | i + 4 => rfl
      rw [h3]
      simp only [decide_eq_true_eq] at h2
      omega⟩
    go_wp2_with (at_mapUpdate
                 refine wpList_mapset rfl (.tmp 34) (.tmp 35) (.const (.int .i64 1)) 90 rfl (kfq l) hm0 Try.underlying90 [0, 0, 0, 0] hok 1 rfl rfl rfl ?_
                 intro es clock hm1)
    have hB0 := hB2.grown (grown_setBlock (w1.alloc (.map #[] 0)) w1.heap.size (.map es clock)) (by omega) (fun j e => by cases e; exact hs1)
    have hs0 : (setBlock (w1.alloc (.map #[] 0)) w1.heap.size (.map es clock)).heap.size = w1.heap.size + 1 := by simp [setBlock]
    have hM0 : ∀ j, tot (l.map bl) k j (putL [] [0, 0, 0, 0] 1) = fbase l k j := fun j => by
      unfold fbase
      rw [HE.out]
      simp [putL, getL, tot]
    generalize setBlock (w1.alloc (.map #[] 0)) w1.heap.size (.map es clock) = W0 at hm1 hB0 hs0 ⊢
    generalize (putL [] [0, 0, 0, 0] 1 : MM) = M0 at hm1 hM0
    have HM0 := Aside0.mk hM0
    clear hm0 hB2 hsm hM0 hok
    obtain ⟨bz, hbz⟩ : ∃ bz, bz = w1.heap.size := ⟨_, rfl⟩
    rw [← hbz] at hm1 hs0 hs1 ⊢
    have Hbz := Lib.hid hbz
    clear hbz
    go_loopw [8, 9, 38] (fun vm vo vi wr => ∃ (i bM : Nat) (M : MM), vm = .map (some bM) ∧ vi = .int .i64 i ∧ i ≤ n + 1 ∧ MB wr bM mksV vN (okq l) M ∧ bz ≤ bM ∧ Aside0 (∀ j, tot (l.map bl) k j M = fbase l k (i + j)) ∧
      Aside0 (Kd.R (Kd.int .i64) 3 wr w.heap.size (fun _ => True) vo (zs ((List.range i).map (fbase l k)))) ∧ Aside0 (Below w.heap.size w wr) ∧ bz < wr.heap.size) (fun _ _ vi _ => n + 1 - (intOf vi).toNat)
    case atStart =>
      exact ⟨0, bz, M0, rfl, rfl, Nat.zero_le _, hm1, Nat.le_refl _, ⟨fun j => by rw [HM0.out, Nat.zero_add]⟩, ⟨Kd.R_nil _ _ _ _ _⟩, ⟨hB0⟩, by omega⟩
    case round =>
      clear hm1 hs0 hB0 HM0
      obtain ⟨i, bM, M, rfl, rfl, hi, hm, hbM, HT, HO, HB, hbs⟩ := hrel
      by_cases hlt : i < n + 1
      · have hmm := @run_makeMap Try.prog
        have hbMl := hm.lt
        go_wp2_with (at_range
                     refine wpList_range_mb rfl (.tmp 41) 90 rfl (hm.alloc (.map #[] 0)) Try.underlying90 rfl ?_
                     intro w3 hr3 hB3 hs3)
        go_frame
        have hBn := hB3.mono (B' := wr.heap.size) (by simp)
        have hN3 := (MB.new wr mksV vN (okq l)).below hB3 (by simp)
        have HO3 := Aside0.mk (Kd.R_below (Kd.R_below HO.out ((Below.refl _ wr).alloc (Nat.le_refl _) (.map #[] 0))) hB3)
        have HB3 := Aside0.mk ((HB.out.alloc HB.out.size (.map #[] 0)).trans (hB3.mono (by have := HB.out.size; simp; omega)))
        have hT0 : tot (l.map bl) k 0 M = fbase l k i := HT.out 0
        have hT1 : tot (l.map bl) k 1 M = fbase l k (i + 1) := HT.out 1
        have hbi := fbase_le l k i hk2 (by omega)
        have hbi1 := fbase_le l k (i + 1) hk2 (by omega)
        rw [← hT0] at hbi
        rw [← hT1] at hbi1
        have HT0 := Aside0.mk hT0
        simp only [World.size_alloc] at hr3 hs3 ⊢
        have hwl := HB.out.size
        obtain ⟨bN, hbN⟩ : ∃ bN, bN = wr.heap.size := ⟨_, rfl⟩
        rw [← hbN] at hr3 hs3 hN3 hbMl hbs hwl ⊢
        have HbN := Lib.hid hbN
        clear hbN hBn hB3 hT0 hT1 hmm hm
        go_loopw [10] (fun vs wr' => ∃ (left N : MM) (sm : Nat), vs = .int .i64 sm ∧ MR wr' bM (bN + 1) mksV vN (okq l) M left ∧ MB wr' bN mksV vN (okq l) N ∧ Aside0 (∀ j, tot (l.map bl) k j N + tot (l.map bl) k (j + 1) left = tot (l.map bl) k (j + 1) M) ∧
          Aside0 (sm + tot (l.map bl) k 0 left = tot (l.map bl) k 0 M) ∧ Aside0 (Kd.R (Kd.int .i64) 3 wr' w.heap.size (fun _ => True) u9 (zs ((List.range i).map (fbase l k)))) ∧ Aside0 (Below w.heap.size w wr') ∧ bN + 2 ≤ wr'.heap.size) (fun _ wr' => wr'.rangeLeft bM (bN + 1))
        case atStart => exact ⟨M, [], 0, rfl, hr3, hN3, ⟨fun j => by simp [tot]⟩, ⟨by simp⟩, HO3, HB3, by omega⟩
        case round =>
          clear hr3 hN3 HO3 HB3 hs3
          obtain ⟨left, N, sm, rfl, hr4, hN4, HS, HU, HO4, HB4, hz4⟩ := hrel
          have hsm := HU.out
          go_wp2_with (first
            | (at_next
               refine wpList_next_mr rfl (.tmp 42) rfl rfl hr4 (fun hl => ?_) (fun p x q w5 hl hr5 hg5 hsz5 hen => ?_)
               rotate_left
               have hsz6 := Nat.le_of_eq hsz5.symm
               clear hsz5
               obtain ⟨m, cnt⟩ := x
               simp only [mksV, vN] at hen ⊢
               have hOK : okq l m := hr4.okL (kfq l) (m, cnt) (by rw [hl]; simp)
               have hm4 : m.length = 4 := by
                 obtain ⟨⟨h1, _⟩, _⟩ := hOK
                 exact h1
               have hA4 : (mksA m).size = 4 := by rw [mksA_size, hm4]
               have HA4 := Lib.hid hA4
               have HOK := Aside0.mk hOK
               clear hA4 hOK
               subst hl
               rw [tot_out] at hsm
               simp only [wcount, Nat.mul_one] at hsm)
            | (refine wpList_store_new rfl 92 (.tmp 12) (.tmp 46) rfl w5 _ 92 (mksA m) rfl rfl rfl (by rw [HA4.out]; rfl) (by rw [HA4.out]; kernel_rfl) (mksA_one m) ?_
               intro w6 hB6 hlt6 hblk)
            | ((with_reducible refine gate_builtin (b := .append) (xs := #[.tmp 73, .tmp 75]) rfl ?_); at_builtin; refine Kd.R_append (Kd.int .i64) (w0 := w) w.heap.size rfl (.tmp 73) (.tmp 75) 24 3 (.int .i64 0) 8 rfl Try.underlying24 info3 rfl (by decide) (by omega) u9 (zs ((List.range i).map (fbase l k))) sm [.int .i64 sm] (fun _ => True) (fun _ => False) rfl rfl rfl (fun _ hk => hk.elim) (fun _ _ => trivial) HO4.out HB4.out HB4.out.size (by rw [zs_len]; simp; omega) ?_; intro v7 w7 ho7 hb7 hg7 hat7))
          · have hbM4 := hr4.lt
            have hOut : some bN ≠ u9.ownBlock := by
              obtain ⟨o, ho, hc⟩ := hN4.obj
              exact own_ne_obj HO4.out ho hc
            have hB5 := HB4.out.grown hg5 (by omega) (fun j e => by cases e; omega)
            have hr6 : MR w6 bM (bN + 1) mksV vN (okq l) M (p ++ q) := hr5.same (hB6.block _ (by omega)) (hB6.block _ (by omega))
            have hN6 := (hN4.grown hg5 (by simp)).below hB6 (by omega)
            have hO5 := Kd.R_grown2 HO4.out rfl hg5 (fun j e => by
              cases e
              obtain ⟨es2, clock2, seen2, _, _, hrr, _⟩ := hr4.out
              exact own_ne_obj HO4.out hrr rfl)
            have HO6 := Aside0.mk (Kd.R_below hO5 hB6)
            have HB6 := Aside0.mk (hB5.trans (hB6.mono (by omega)))
            have hz6 : bN + 2 ≤ w6.heap.size := by omega
            have hwt : ∀ j, tot (l.map bl) k j N + tot (l.map bl) k (j + 1) (p ++ q) + cnt * wcount (l.map bl) k (j + 1) m = tot (l.map bl) k (j + 1) M := fun j => by
              have := HS.out j
              rw [tot_out] at this
              simp only at this
              omega
            have HW := Aside0.mk hwt
            have hrl : w6.rangeLeft bM (bN + 1) < wr.rangeLeft bM (bN + 1) := by
              rw [hr6.left_eq, hr4.left_eq]; simp
            have Hrl := Aside0.mk hrl
            have hgt : w5.heap.size < w6.heap.size := hlt6
            clear hr4 hN4 HO4 HB4 hg5 hr5 hen hB6 hO5 hB5 hwt HS hrl hOut hlt6
            obtain ⟨bX, hbX⟩ : ∃ bX, bX = w5.heap.size := ⟨_, rfl⟩
            rw [← hbX] at hblk hgt hsz6 ⊢
            have HbX := Lib.hid hbX
            clear hbX
            go_loopw [52] (fun vc wr' => ∃ (c : Nat) (N' : MM), vc = .int .i64 c ∧ c ≤ k ∧ MR wr' bM (bN + 1) mksV vN (okq l) M (p ++ q) ∧ MB wr' bN mksV vN (okq l) N' ∧ Aside0 (∀ j, tot (l.map bl) k j N' = tot (l.map bl) k j N + cnt * wpart (l.map bl) (wcount (l.map bl) k j) m c) ∧
              Aside0 (Kd.R (Kd.int .i64) 3 wr' w.heap.size (fun _ => True) u9 (zs ((List.range i).map (fbase l k)))) ∧ Aside0 (Below w.heap.size w wr') ∧ bX < wr'.heap.size ∧ Blk wr' bX (mksA m) 92 ∧ Aside0 (wr'.rangeLeft bM (bN + 1) = w6.rangeLeft bM (bN + 1))) (fun vc _ => k - (intOf vc).toNat)
            case atStart => exact ⟨0, N, rfl, Nat.zero_le _, hr6, hN6, ⟨fun j => by simp [wpart]⟩, HO6, HB6, hgt, hblk, ⟨rfl⟩⟩
            case round =>
              clear hr6 hN6 HO6 HB6 hblk hgt hz6
              obtain ⟨c, N', rfl, hc, hr8, hN8, HV, HO8, HB8, hX8, hb8, HL8⟩ := hrel
              by_cases hck : c < k
              · have hsr := hr.below HB8.out
                obtain ⟨t, ht⟩ : ∃ t, t = (mgo (97 + c) (l.map bl) m 0).1 := ⟨_, rfl⟩
                obtain ⟨bo, hbo⟩ : ∃ bo, bo = (mgo (97 + c) (l.map bl) m 0).2 := ⟨_, rfl⟩
                have hcall := mafter_any A cp l m (97 + c) wr hsr hl4 Hl8.out HOK.out.2
                rw [show ((97 + c : Nat) : Int) = 97 + (c : Int) by omega, ← ht, ← hbo] at hcall
                have Hcall := Aside0.mk hcall
                have ht4 : (mksA t).size = 4 := by rw [mksA_size, ht, mgo_length]; exact HOK.out.1.1
                have HT4 := Lib.hid ht4
                have Ht := Lib.hid ht
                have Hbo := Lib.hid hbo
                clear hcall ht4 ht hbo
                cases bo with
                | false =>
                  go_wp2_with (first
                    | (refine wpList_load_row rfl 92 (.tmp 12) rfl bX rfl 92 _ (0, 0) _ hb8.out Try.underlying92 rfl (by rw [HA4.out]; kernel_rfl) ?_)
                    | (go_at_call 60
                       refine Hcall.out.mono ?_
                       rintro e w9 ⟨rfl, hB9⟩
                       simp only [mksV])
                    | (refine wpList_store_new rfl 92 (.tmp 15) (.tmp 62) rfl w9 _ 92 (mksA t) rfl rfl rfl (by rw [HT4.out]; rfl) (by rw [HT4.out]; kernel_rfl) (mksA_one t) ?_
                       intro w10 hB10 hlt10 hblk10))
                  go_roundw
                  case rel =>
                    have hlt9 := hB9.size
                    have hlr := hr8.lt
                    have hB11 : Below wr.heap.size wr w10 := hB9.trans (hB10.mono hlt9)
                    have hr11 := hr8.same (w' := w10) (hB11.block _ (by omega)) (hB11.block _ (by omega))
                    refine ⟨c + 1, N', by go_num, by omega, hr11, hN8.below hB11 (by omega), ⟨fun j => ?_⟩, ⟨Kd.R_below HO8.out hB11⟩, ⟨HB8.out.trans (hB11.mono HB8.out.size)⟩, by omega, hb8.below hB11 (by omega), ⟨?_⟩⟩
                    · rw [HV.out j, wpart, wterm, ← Hbo.out, if_neg (by simp), Nat.add_zero]
                    · rw [hr11.left_eq, ← HL8.out, hr8.left_eq]
                  case measure => simp [intOf]; omega
                | true =>
                  go_wp2_with (first
                    | (refine wpList_load_row rfl 92 (.tmp 12) rfl bX rfl 92 _ (0, 0) _ hb8.out Try.underlying92 rfl (by rw [HA4.out]; kernel_rfl) ?_)
                    | (go_at_call 60
                       refine Hcall.out.mono ?_
                       rintro e w9 ⟨rfl, hB9⟩
                       simp only [mksV])
                    | (refine wpList_store_new rfl 92 (.tmp 15) (.tmp 62) rfl w9 _ 92 (mksA t) rfl rfl rfl (by rw [HT4.out]; rfl) (by rw [HT4.out]; kernel_rfl) (mksA_one t) ?_
                       intro w10 hB10 hlt10 hblk10))
                  have hlt9 := hB9.size
                  have hlr := hr8.lt
                  have hB11 : Below wr.heap.size wr w10 := hB9.trans (hB10.mono hlt9)
                  have hr11 := hr8.same (w' := w10) (hB11.block _ (by omega)) (hB11.block _ (by omega))
                  have hN11 := hN8.below hB11 (by omega)
                  have hOK2 : okq l t := by
                    rw [Ht.out]; exact okq_go HOK.out hl4 Hl8.out _ Hbo.out.symm
                  have hz3 : ∀ u : World, (zeroValue 3).run Try.prog u = .ok (vN 0) u := run_zero (by kernel_rfl)
                  have hlook := hN11.drew.look (kfq l) Try.underlying90 (hz3 _) t hOK2 false
                  obtain ⟨es1, clock1, st, hent, hN12, hst⟩ := hN11.drew.entry (kfq l) Try.underlying90 hz3 t hOK2
                  obtain ⟨es2, clock2, hsto, hN13⟩ := hst (setBlock w10.drew bN (.map es1 clock1)) ((getL N' t).getD 0 + cnt) (heap_block hN11.drew.lt _)
                  have hlook2 := hN12.look (kfq l) Try.underlying90 (hz3 _) t hOK2 false
                  obtain ⟨v, hv⟩ : ∃ v, v = (getL N' t).getD 0 := ⟨_, rfl⟩
                  have e1 : ((getL N' t).map vN).getD (vN 0) = vN v := by rw [hv]; cases getL N' t <;> rfl
                  have e2 : ((getL (putL N' t ((getL N' t).getD 0)) t).map vN).getD (vN 0) = vN v := by rw [hv, getL_putL]; rfl
                  rw [if_neg (by simp), e1] at hlook
                  rw [if_neg (by simp), e2] at hlook2
                  rw [← hv] at hent hsto hN12 hN13
                  have e3 : vN (v + cnt) = .int .i64 ((v : Int) + cnt) := by show Value.int .i64 ((v + cnt : Nat) : Int) = _; simp
                  rw [e3] at hsto
                  have hN13' := Aside0.mk hN13
                  have Hv := Lib.hid hv
                  have hkeys : (N'.map (·.1)).Nodup := by
                    obtain ⟨_, _, _, hme⟩ := hN8.out
                    exact hme.keys
                  have hterm : ∀ j, wterm (l.map bl) (wcount (l.map bl) k j) m c = wcount (l.map bl) k j t := fun j => by
                    unfold wterm
                    rw [← Hbo.out, if_pos rfl, ← Ht.out]
                  have hbv : (v : Int) + cnt ≤ 4611686018427387904 := by
                    have h1 := get_le (l.map bl) k N' t hkeys
                    have h2 := HV.out 0
                    have h3 := HW.out 0
                    have h4 : wpart (l.map bl) (wcount (l.map bl) k 0) m (c + 1) ≤ wpart (l.map bl) (wcount (l.map bl) k 0) m k := by
                      have := wpart_mono (l.map bl) (wcount (l.map bl) k 0) m (c + 1) (k - (c + 1))
                      rwa [show c + 1 + (k - (c + 1)) = k by omega] at this
                    rw [wpart, hterm] at h4
                    simp only [wcount] at h3 h4
                    have h5 := Nat.mul_le_mul_left cnt h4
                    rw [Nat.mul_add, Nat.mul_one] at h5
                    simp only [Nat.zero_add] at h3
                    rw [← hv] at h1
                    simp only [wcount] at h2
                    omega
                  have Hterm := Aside0.mk hterm
                  have Hkeys := Aside0.mk hkeys
                  clear hterm hkeys
                  simp only [vN, mksV] at hlook hlook2 hent hsto
                  obtain ⟨t0, t1, t2, t3, htt⟩ : ∃ t0 t1 t2 t3, t = [t0, t1, t2, t3] := by
                    have := hOK2.1.1
                    match t, this with
                    | [a, b, c, d], _ => exact ⟨a, b, c, d, rfl⟩
                  have hmk : mksA t = #[.int .i64 t0, .int .i64 t1, .int .i64 t2, .int .i64 t3] := by rw [htt]; rfl
                  rw [hmk] at hlook hlook2 hent
                  have k0 := (hblk10.as hmk).cell 0
                  have k1 := (hblk10.as hmk).cell 1
                  have k2 := (hblk10.as hmk).cell 2
                  have k3 := (hblk10.as hmk).cell 3
                  simp only [List.getElem?_toArray, List.getElem?_cons_zero, List.getElem?_cons_succ] at k0 k1 k2 k3
                  have HOK2 := Aside0.mk hOK2
                  have hwr : IntKind.i64.wrap ((v : Int) + cnt) = (v : Int) + cnt := IntWalk.i64_in _ (by omega)
                  rw [← hwr] at hsto
                  simp only [goInt] at hsto hent
                  clear htt hmk hOK2 hwr
                  have hmix : Try.prog.follows .mixedOrders = true := by kernel_rfl
                  clear e1 e2 e3 hN12 hN13 hz3 hst hv
                  have hOb : some bN ≠ u9.ownBlock := by
                    obtain ⟨o, ho, hc⟩ := hN11.obj
                    exact own_ne_obj (Kd.R_below HO8.out hB11) ho hc
                  have hg13 : w10.grownBy (setBlock (setBlock w10.drew bN (.map es1 clock1)) bN (.map es2 clock2)) (some bN) :=
                    ⟨rfl, rfl, rfl, by simp [setBlock], fun i _ hi => by rw [heap_block_ne (fun e => hi (by rw [e])), heap_block_ne (fun e => hi (by rw [e]))]; rfl⟩
                  have Hg13 := Aside0.mk hg13
                  clear hg13
                  go_region
                  all_goals
                    go_wp2
                    go_roundw
                    case rel =>
                      have hg13 := Hg13.out
                      have hbXN : bN + 2 ≤ bX := by omega
                      have hr13 := hr11.same (hg13.block bM hr11.lt.1 (fun e => by cases e; omega)) (hg13.block (bN + 1) hr11.lt.2 (fun e => by simp at e))
                      refine ⟨c + 1, _, by go_num, by omega, hr13, hN13'.out, ⟨fun j => ?_⟩, ⟨Kd.R_grown2 (Kd.R_below HO8.out hB11) rfl hg13 (fun j e => by cases e; exact hOb)⟩, ⟨(HB8.out.trans (hB11.mono HB8.out.size)).grown hg13 (by have := HB8.out.size; omega) (fun j e => by cases e; omega)⟩, by have := hg13.size; omega, (hb8.below hB11 (by omega)).grown hg13 (by simp; omega), ⟨?_⟩⟩
                      · rw [Hv.out, tot_put _ _ _ _ _ _ Hkeys.out, HV.out j, wpart, Hterm.out, Nat.mul_add]; omega
                      · rw [hr13.left_eq, ← HL8.out, hr8.left_eq]
                    case measure => simp [intOf]; omega
              · obtain rfl : c = k := by omega
                go_wp2
                have hfin : ∀ j, tot (l.map bl) c j N' + tot (l.map bl) c (j + 1) (p ++ q) = tot (l.map bl) c (j + 1) M := fun j => by
                  have h1 := HV.out j
                  have h2 := HW.out j
                  rw [h1]
                  simp only [wcount] at h2 ⊢
                  omega
                have hd : decide ((i : Int) < (n : Int) + 1) = true := decide_eq_true (by omega)
                simp only [hd]
                refine ⟨?rel0, ?measure0⟩
                case rel0 =>
                  repeat apply Exists.intro
                  refine ⟨⟨p ++ q, N', sm + cnt, ?_, hr8, hN8, ⟨hfin⟩, ⟨by omega⟩, HO8, HB8, by omega⟩, rfl⟩
                  exact int_eq (by omega)
                case measure0 =>
                  have h1 := HL8.out
                  have h2 := Hrl.out
                  omega
          · have hlf : left = [] := hl
            subst hlf
            have hOut : some bN ≠ u9.ownBlock := by
              obtain ⟨o, ho, hc⟩ := hN4.obj
              exact own_ne_obj HO4.out ho hc
            have hsm2 : sm = fbase l k i := by
              have := HU.out
              have h2 := HT0.out
              simp only [tot] at this
              omega
            go_roundw
            case rel =>
              refine ⟨i + 1, bN, N, rfl, by go_num, by omega, hN4.grown hg7 hOut, by omega, ⟨fun j => ?_⟩, ⟨?_⟩, ⟨hb7⟩, by have := hg7.size; omega⟩
              · have h1 := HS.out j
                have h2 := HT.out (j + 1)
                simp only [tot, Nat.add_zero] at h1
                rw [h1, h2, show i + (j + 1) = i + 1 + j by omega]
              · rw [List.range_succ, List.map_append, List.map_cons, List.map_nil, zs_snoc, ← hsm2]
                exact ho7
            case measure => simp [intOf]; omega
      · obtain rfl : i = n + 1 := by omega
        go_wp2
        go_ret2
        exact ⟨_, rfl, HO.out, HB.out⟩
  · have HE := Lib.hid hE
    clear hE
    go_wp2
    have hM0 : ∀ j, tot (l.map bl) k j [] = fbase l k j := fun j => by
      unfold fbase
      rw [HE.out]; rfl
    have hm1 := hm0
    have hB0 := hB2
    have hs0 := hsm
    generalize w1.alloc (.map #[] 0) = W0 at hm1 hB0 hs0 ⊢
    generalize ([] : MM) = M0 at hm1 hM0
    have HM0 := Aside0.mk hM0
    clear hm0 hB2 hsm hM0
    obtain ⟨bz, hbz⟩ : ∃ bz, bz = w1.heap.size := ⟨_, rfl⟩
    rw [← hbz] at hm1 hs0 hs1 ⊢
    have Hbz := Lib.hid hbz
    clear hbz
    go_loopw [8, 9, 38] (fun vm vo vi wr => ∃ (i bM : Nat) (M : MM), vm = .map (some bM) ∧ vi = .int .i64 i ∧ i ≤ n + 1 ∧ MB wr bM mksV vN (okq l) M ∧ bz ≤ bM ∧ Aside0 (∀ j, tot (l.map bl) k j M = fbase l k (i + j)) ∧
      Aside0 (Kd.R (Kd.int .i64) 3 wr w.heap.size (fun _ => True) vo (zs ((List.range i).map (fbase l k)))) ∧ Aside0 (Below w.heap.size w wr) ∧ bz < wr.heap.size) (fun _ _ vi _ => n + 1 - (intOf vi).toNat)
    case atStart =>
      exact ⟨0, bz, M0, rfl, rfl, Nat.zero_le _, hm1, Nat.le_refl _, ⟨fun j => by rw [HM0.out, Nat.zero_add]⟩, ⟨Kd.R_nil _ _ _ _ _⟩, ⟨hB0⟩, by omega⟩
    case round =>
      clear hm1 hs0 hB0 HM0
      obtain ⟨i, bM, M, rfl, rfl, hi, hm, hbM, HT, HO, HB, hbs⟩ := hrel
      by_cases hlt : i < n + 1
      · have hmm := @run_makeMap Try.prog
        have hbMl := hm.lt
        go_wp2_with (at_range
                     refine wpList_range_mb rfl (.tmp 41) 90 rfl (hm.alloc (.map #[] 0)) Try.underlying90 rfl ?_
                     intro w3 hr3 hB3 hs3)
        go_frame
        have hBn := hB3.mono (B' := wr.heap.size) (by simp)
        have hN3 := (MB.new wr mksV vN (okq l)).below hB3 (by simp)
        have HO3 := Aside0.mk (Kd.R_below (Kd.R_below HO.out ((Below.refl _ wr).alloc (Nat.le_refl _) (.map #[] 0))) hB3)
        have HB3 := Aside0.mk ((HB.out.alloc HB.out.size (.map #[] 0)).trans (hB3.mono (by have := HB.out.size; simp; omega)))
        have hT0 : tot (l.map bl) k 0 M = fbase l k i := HT.out 0
        have hT1 : tot (l.map bl) k 1 M = fbase l k (i + 1) := HT.out 1
        have hbi := fbase_le l k i hk2 (by omega)
        have hbi1 := fbase_le l k (i + 1) hk2 (by omega)
        rw [← hT0] at hbi
        rw [← hT1] at hbi1
        have HT0 := Aside0.mk hT0
        simp only [World.size_alloc] at hr3 hs3 ⊢
        have hwl := HB.out.size
        obtain ⟨bN, hbN⟩ : ∃ bN, bN = wr.heap.size := ⟨_, rfl⟩
        rw [← hbN] at hr3 hs3 hN3 hbMl hbs hwl ⊢
        have HbN := Lib.hid hbN
        clear hbN hBn hB3 hT0 hT1 hmm hm
        go_loopw [10] (fun vs wr' => ∃ (left N : MM) (sm : Nat), vs = .int .i64 sm ∧ MR wr' bM (bN + 1) mksV vN (okq l) M left ∧ MB wr' bN mksV vN (okq l) N ∧ Aside0 (∀ j, tot (l.map bl) k j N + tot (l.map bl) k (j + 1) left = tot (l.map bl) k (j + 1) M) ∧
          Aside0 (sm + tot (l.map bl) k 0 left = tot (l.map bl) k 0 M) ∧ Aside0 (Kd.R (Kd.int .i64) 3 wr' w.heap.size (fun _ => True) u9 (zs ((List.range i).map (fbase l k)))) ∧ Aside0 (Below w.heap.size w wr') ∧ bN + 2 ≤ wr'.heap.size) (fun _ wr' => wr'.rangeLeft bM (bN + 1))
        case atStart => exact ⟨M, [], 0, rfl, hr3, hN3, ⟨fun j => by simp [tot]⟩, ⟨by simp⟩, HO3, HB3, by omega⟩
        case round =>
          clear hr3 hN3 HO3 HB3 hs3
          obtain ⟨left, N, sm, rfl, hr4, hN4, HS, HU, HO4, HB4, hz4⟩ := hrel
          have hsm := HU.out
          go_wp2_with (first
            | (at_next
               refine wpList_next_mr rfl (.tmp 42) rfl rfl hr4 (fun hl => ?_) (fun p x q w5 hl hr5 hg5 hsz5 hen => ?_)
               rotate_left
               have hsz6 := Nat.le_of_eq hsz5.symm
               clear hsz5
               obtain ⟨m, cnt⟩ := x
               simp only [mksV, vN] at hen ⊢
               have hOK : okq l m := hr4.okL (kfq l) (m, cnt) (by rw [hl]; simp)
               have hm4 : m.length = 4 := by
                 obtain ⟨⟨h1, _⟩, _⟩ := hOK
                 exact h1
               have hA4 : (mksA m).size = 4 := by rw [mksA_size, hm4]
               have HA4 := Lib.hid hA4
               have HOK := Aside0.mk hOK
               clear hA4 hOK
               subst hl
               rw [tot_out] at hsm
               simp only [wcount, Nat.mul_one] at hsm)
            | (refine wpList_store_new rfl 92 (.tmp 12) (.tmp 46) rfl w5 _ 92 (mksA m) rfl rfl rfl (by rw [HA4.out]; rfl) (by rw [HA4.out]; kernel_rfl) (mksA_one m) ?_
               intro w6 hB6 hlt6 hblk)
            | ((with_reducible refine gate_builtin (b := .append) (xs := #[.tmp 73, .tmp 75]) rfl ?_); at_builtin; refine Kd.R_append (Kd.int .i64) (w0 := w) w.heap.size rfl (.tmp 73) (.tmp 75) 24 3 (.int .i64 0) 8 rfl Try.underlying24 info3 rfl (by decide) (by omega) u9 (zs ((List.range i).map (fbase l k))) sm [.int .i64 sm] (fun _ => True) (fun _ => False) rfl rfl rfl (fun _ hk => hk.elim) (fun _ _ => trivial) HO4.out HB4.out HB4.out.size (by rw [zs_len]; simp; omega) ?_; intro v7 w7 ho7 hb7 hg7 hat7))
          · have hbM4 := hr4.lt
            have hOut : some bN ≠ u9.ownBlock := by
              obtain ⟨o, ho, hc⟩ := hN4.obj
              exact own_ne_obj HO4.out ho hc
            have hB5 := HB4.out.grown hg5 (by omega) (fun j e => by cases e; omega)
            have hr6 : MR w6 bM (bN + 1) mksV vN (okq l) M (p ++ q) := hr5.same (hB6.block _ (by omega)) (hB6.block _ (by omega))
            have hN6 := (hN4.grown hg5 (by simp)).below hB6 (by omega)
            have hO5 := Kd.R_grown2 HO4.out rfl hg5 (fun j e => by
              cases e
              obtain ⟨es2, clock2, seen2, _, _, hrr, _⟩ := hr4.out
              exact own_ne_obj HO4.out hrr rfl)
            have HO6 := Aside0.mk (Kd.R_below hO5 hB6)
            have HB6 := Aside0.mk (hB5.trans (hB6.mono (by omega)))
            have hz6 : bN + 2 ≤ w6.heap.size := by omega
            have hwt : ∀ j, tot (l.map bl) k j N + tot (l.map bl) k (j + 1) (p ++ q) + cnt * wcount (l.map bl) k (j + 1) m = tot (l.map bl) k (j + 1) M := fun j => by
              have := HS.out j
              rw [tot_out] at this
              simp only at this
              omega
            have HW := Aside0.mk hwt
            have hrl : w6.rangeLeft bM (bN + 1) < wr.rangeLeft bM (bN + 1) := by
              rw [hr6.left_eq, hr4.left_eq]; simp
            have Hrl := Aside0.mk hrl
            have hgt : w5.heap.size < w6.heap.size := hlt6
            clear hr4 hN4 HO4 HB4 hg5 hr5 hen hB6 hO5 hB5 hwt HS hrl hOut hlt6
            obtain ⟨bX, hbX⟩ : ∃ bX, bX = w5.heap.size := ⟨_, rfl⟩
            rw [← hbX] at hblk hgt hsz6 ⊢
            have HbX := Lib.hid hbX
            clear hbX
            go_loopw [52] (fun vc wr' => ∃ (c : Nat) (N' : MM), vc = .int .i64 c ∧ c ≤ k ∧ MR wr' bM (bN + 1) mksV vN (okq l) M (p ++ q) ∧ MB wr' bN mksV vN (okq l) N' ∧ Aside0 (∀ j, tot (l.map bl) k j N' = tot (l.map bl) k j N + cnt * wpart (l.map bl) (wcount (l.map bl) k j) m c) ∧
              Aside0 (Kd.R (Kd.int .i64) 3 wr' w.heap.size (fun _ => True) u9 (zs ((List.range i).map (fbase l k)))) ∧ Aside0 (Below w.heap.size w wr') ∧ bX < wr'.heap.size ∧ Blk wr' bX (mksA m) 92 ∧ Aside0 (wr'.rangeLeft bM (bN + 1) = w6.rangeLeft bM (bN + 1))) (fun vc _ => k - (intOf vc).toNat)
            case atStart => exact ⟨0, N, rfl, Nat.zero_le _, hr6, hN6, ⟨fun j => by simp [wpart]⟩, HO6, HB6, hgt, hblk, ⟨rfl⟩⟩
            case round =>
              clear hr6 hN6 HO6 HB6 hblk hgt hz6
              obtain ⟨c, N', rfl, hc, hr8, hN8, HV, HO8, HB8, hX8, hb8, HL8⟩ := hrel
              by_cases hck : c < k
              · have hsr := hr.below HB8.out
                obtain ⟨t, ht⟩ : ∃ t, t = (mgo (97 + c) (l.map bl) m 0).1 := ⟨_, rfl⟩
                obtain ⟨bo, hbo⟩ : ∃ bo, bo = (mgo (97 + c) (l.map bl) m 0).2 := ⟨_, rfl⟩
                have hcall := mafter_any A cp l m (97 + c) wr hsr hl4 Hl8.out HOK.out.2
                rw [show ((97 + c : Nat) : Int) = 97 + (c : Int) by omega, ← ht, ← hbo] at hcall
                have Hcall := Aside0.mk hcall
                have ht4 : (mksA t).size = 4 := by rw [mksA_size, ht, mgo_length]; exact HOK.out.1.1
                have HT4 := Lib.hid ht4
                have Ht := Lib.hid ht
                have Hbo := Lib.hid hbo
                clear hcall ht4 ht hbo
                cases bo with
                | false =>
                  go_wp2_with (first
                    | (refine wpList_load_row rfl 92 (.tmp 12) rfl bX rfl 92 _ (0, 0) _ hb8.out Try.underlying92 rfl (by rw [HA4.out]; kernel_rfl) ?_)
                    | (go_at_call 60
                       refine Hcall.out.mono ?_
                       rintro e w9 ⟨rfl, hB9⟩
                       simp only [mksV])
                    | (refine wpList_store_new rfl 92 (.tmp 15) (.tmp 62) rfl w9 _ 92 (mksA t) rfl rfl rfl (by rw [HT4.out]; rfl) (by rw [HT4.out]; kernel_rfl) (mksA_one t) ?_
                       intro w10 hB10 hlt10 hblk10))
                  go_roundw
                  case rel =>
                    have hlt9 := hB9.size
                    have hlr := hr8.lt
                    have hB11 : Below wr.heap.size wr w10 := hB9.trans (hB10.mono hlt9)
                    have hr11 := hr8.same (w' := w10) (hB11.block _ (by omega)) (hB11.block _ (by omega))
                    refine ⟨c + 1, N', by go_num, by omega, hr11, hN8.below hB11 (by omega), ⟨fun j => ?_⟩, ⟨Kd.R_below HO8.out hB11⟩, ⟨HB8.out.trans (hB11.mono HB8.out.size)⟩, by omega, hb8.below hB11 (by omega), ⟨?_⟩⟩
                    · rw [HV.out j, wpart, wterm, ← Hbo.out, if_neg (by simp), Nat.add_zero]
                    · rw [hr11.left_eq, ← HL8.out, hr8.left_eq]
                  case measure => simp [intOf]; omega
                | true =>
                  go_wp2_with (first
                    | (refine wpList_load_row rfl 92 (.tmp 12) rfl bX rfl 92 _ (0, 0) _ hb8.out Try.underlying92 rfl (by rw [HA4.out]; kernel_rfl) ?_)
                    | (go_at_call 60
                       refine Hcall.out.mono ?_
                       rintro e w9 ⟨rfl, hB9⟩
                       simp only [mksV])
                    | (refine wpList_store_new rfl 92 (.tmp 15) (.tmp 62) rfl w9 _ 92 (mksA t) rfl rfl rfl (by rw [HT4.out]; rfl) (by rw [HT4.out]; kernel_rfl) (mksA_one t) ?_
                       intro w10 hB10 hlt10 hblk10))
                  have hlt9 := hB9.size
                  have hlr := hr8.lt
                  have hB11 : Below wr.heap.size wr w10 := hB9.trans (hB10.mono hlt9)
                  have hr11 := hr8.same (w' := w10) (hB11.block _ (by omega)) (hB11.block _ (by omega))
                  have hN11 := hN8.below hB11 (by omega)
                  have hOK2 : okq l t := by
                    rw [Ht.out]; exact okq_go HOK.out hl4 Hl8.out _ Hbo.out.symm
                  have hz3 : ∀ u : World, (zeroValue 3).run Try.prog u = .ok (vN 0) u := run_zero (by kernel_rfl)
                  have hlook := hN11.drew.look (kfq l) Try.underlying90 (hz3 _) t hOK2 false
                  obtain ⟨es1, clock1, st, hent, hN12, hst⟩ := hN11.drew.entry (kfq l) Try.underlying90 hz3 t hOK2
                  obtain ⟨es2, clock2, hsto, hN13⟩ := hst (setBlock w10.drew bN (.map es1 clock1)) ((getL N' t).getD 0 + cnt) (heap_block hN11.drew.lt _)
                  have hlook2 := hN12.look (kfq l) Try.underlying90 (hz3 _) t hOK2 false
                  obtain ⟨v, hv⟩ : ∃ v, v = (getL N' t).getD 0 := ⟨_, rfl⟩
                  have e1 : ((getL N' t).map vN).getD (vN 0) = vN v := by rw [hv]; cases getL N' t <;> rfl
                  have e2 : ((getL (putL N' t ((getL N' t).getD 0)) t).map vN).getD (vN 0) = vN v := by rw [hv, getL_putL]; rfl
                  rw [if_neg (by simp), e1] at hlook
                  rw [if_neg (by simp), e2] at hlook2
                  rw [← hv] at hent hsto hN12 hN13
                  have e3 : vN (v + cnt) = .int .i64 ((v : Int) + cnt) := by show Value.int .i64 ((v + cnt : Nat) : Int) = _; simp
                  rw [e3] at hsto
                  have hN13' := Aside0.mk hN13
                  have Hv := Lib.hid hv
                  have hkeys : (N'.map (·.1)).Nodup := by
                    obtain ⟨_, _, _, hme⟩ := hN8.out
                    exact hme.keys
                  have hterm : ∀ j, wterm (l.map bl) (wcount (l.map bl) k j) m c = wcount (l.map bl) k j t := fun j => by
                    unfold wterm
                    rw [← Hbo.out, if_pos rfl, ← Ht.out]
                  have hbv : (v : Int) + cnt ≤ 4611686018427387904 := by
                    have h1 := get_le (l.map bl) k N' t hkeys
                    have h2 := HV.out 0
                    have h3 := HW.out 0
                    have h4 : wpart (l.map bl) (wcount (l.map bl) k 0) m (c + 1) ≤ wpart (l.map bl) (wcount (l.map bl) k 0) m k := by
                      have := wpart_mono (l.map bl) (wcount (l.map bl) k 0) m (c + 1) (k - (c + 1))
                      rwa [show c + 1 + (k - (c + 1)) = k by omega] at this
                    rw [wpart, hterm] at h4
                    simp only [wcount] at h3 h4
                    have h5 := Nat.mul_le_mul_left cnt h4
                    rw [Nat.mul_add, Nat.mul_one] at h5
                    simp only [Nat.zero_add] at h3
                    rw [← hv] at h1
                    simp only [wcount] at h2
                    omega
                  have Hterm := Aside0.mk hterm
                  have Hkeys := Aside0.mk hkeys
                  clear hterm hkeys
                  simp only [vN, mksV] at hlook hlook2 hent hsto
                  obtain ⟨t0, t1, t2, t3, htt⟩ : ∃ t0 t1 t2 t3, t = [t0, t1, t2, t3] := by
                    have := hOK2.1.1
                    match t, this with
                    | [a, b, c, d], _ => exact ⟨a, b, c, d, rfl⟩
                  have hmk : mksA t = #[.int .i64 t0, .int .i64 t1, .int .i64 t2, .int .i64 t3] := by rw [htt]; rfl
                  rw [hmk] at hlook hlook2 hent
                  have k0 := (hblk10.as hmk).cell 0
                  have k1 := (hblk10.as hmk).cell 1
                  have k2 := (hblk10.as hmk).cell 2
                  have k3 := (hblk10.as hmk).cell 3
                  simp only [List.getElem?_toArray, List.getElem?_cons_zero, List.getElem?_cons_succ] at k0 k1 k2 k3
                  have HOK2 := Aside0.mk hOK2
                  have hwr : IntKind.i64.wrap ((v : Int) + cnt) = (v : Int) + cnt := IntWalk.i64_in _ (by omega)
                  rw [← hwr] at hsto
                  simp only [goInt] at hsto hent
                  clear htt hmk hOK2 hwr
                  have hmix : Try.prog.follows .mixedOrders = true := by kernel_rfl
                  clear e1 e2 e3 hN12 hN13 hz3 hst hv
                  have hOb : some bN ≠ u9.ownBlock := by
                    obtain ⟨o, ho, hc⟩ := hN11.obj
                    exact own_ne_obj (Kd.R_below HO8.out hB11) ho hc
                  have hg13 : w10.grownBy (setBlock (setBlock w10.drew bN (.map es1 clock1)) bN (.map es2 clock2)) (some bN) :=
                    ⟨rfl, rfl, rfl, by simp [setBlock], fun i _ hi => by rw [heap_block_ne (fun e => hi (by rw [e])), heap_block_ne (fun e => hi (by rw [e]))]; rfl⟩
                  have Hg13 := Aside0.mk hg13
                  clear hg13
                  go_region
                  all_goals
                    go_wp2
                    go_roundw
                    case rel =>
                      have hg13 := Hg13.out
                      have hbXN : bN + 2 ≤ bX := by omega
                      have hr13 := hr11.same (hg13.block bM hr11.lt.1 (fun e => by cases e; omega)) (hg13.block (bN + 1) hr11.lt.2 (fun e => by simp at e))
                      refine ⟨c + 1, _, by go_num, by omega, hr13, hN13'.out, ⟨fun j => ?_⟩, ⟨Kd.R_grown2 (Kd.R_below HO8.out hB11) rfl hg13 (fun j e => by cases e; exact hOb)⟩, ⟨(HB8.out.trans (hB11.mono HB8.out.size)).grown hg13 (by have := HB8.out.size; omega) (fun j e => by cases e; omega)⟩, by have := hg13.size; omega, (hb8.below hB11 (by omega)).grown hg13 (by simp; omega), ⟨?_⟩⟩
                      · rw [Hv.out, tot_put _ _ _ _ _ _ Hkeys.out, HV.out j, wpart, Hterm.out, Nat.mul_add]; omega
                      · rw [hr13.left_eq, ← HL8.out, hr8.left_eq]
                    case measure => simp [intOf]; omega
              · obtain rfl : c = k := by omega
                go_wp2
                have hfin : ∀ j, tot (l.map bl) c j N' + tot (l.map bl) c (j + 1) (p ++ q) = tot (l.map bl) c (j + 1) M := fun j => by
                  have h1 := HV.out j
                  have h2 := HW.out j
                  rw [h1]
                  simp only [wcount] at h2 ⊢
                  omega
                have hd : decide ((i : Int) < (n : Int) + 1) = true := decide_eq_true (by omega)
                simp only [hd]
                refine ⟨?rel0, ?measure0⟩
                case rel0 =>
                  repeat apply Exists.intro
                  refine ⟨⟨p ++ q, N', sm + cnt, ?_, hr8, hN8, ⟨hfin⟩, ⟨by omega⟩, HO8, HB8, by omega⟩, rfl⟩
                  exact int_eq (by omega)
                case measure0 =>
                  have h1 := HL8.out
                  have h2 := Hrl.out
                  omega
          · have hlf : left = [] := hl
            subst hlf
            have hOut : some bN ≠ u9.ownBlock := by
              obtain ⟨o, ho, hc⟩ := hN4.obj
              exact own_ne_obj HO4.out ho hc
            have hsm2 : sm = fbase l k i := by
              have := HU.out
              have h2 := HT0.out
              simp only [tot] at this
              omega
            go_roundw
            case rel =>
              refine ⟨i + 1, bN, N, rfl, by go_num, by omega, hN4.grown hg7 hOut, by omega, ⟨fun j => ?_⟩, ⟨?_⟩, ⟨hb7⟩, by have := hg7.size; omega⟩
              · have h1 := HS.out j
                have h2 := HT.out (j + 1)
                simp only [tot, Nat.add_zero] at h1
                rw [h1, h2, show i + (j + 1) = i + 1 + j by omega]
              · rw [List.range_succ, List.map_append, List.map_cons, List.map_nil, zs_snoc, ← hsm2]
                exact ho7
            case measure => simp [intOf]; omega
      · obtain rfl : i = n + 1 := by omega
        go_wp2
        go_ret2
        exact ⟨_, rfl, HO.out, HB.out⟩
end Go.Proofs.Ytfjbodaakmapdaa

/-! ## Free -/
namespace Go.Proofs.Ytfjbodaakmapdaa
open Go.RowKit Go.Shelf Th Kit Go.Proofs.YtfjbodaakmapdaaW.PrintWords

def freeOk (l : List ByteArray) (k n : Int) : Bool := isFam l && ((decide (1 ≤ k) && decide (k ≤ 4)) && (decide (0 ≤ n) && decide (n ≤ 30)))

def Given.thread_Free.f (l : List ByteArray) (k n : Int) : Option (List Int × Int) :=
  some (if freeOk l k n = true then (zs (freeOut l k.toNat n.toNat), 0) else ([], 2))

theorem free_no (A : Option Addr) (cp : Nat) (l : List ByteArray) (k n : Int) (w : World) (hr : SR w A l) (h : freeOk l k n = false) : Calls Try.prog 36 #[.slice A l.length cp, .int .i64 k, .int .i64 n] w (WithinPost [] 2 w) := by
  unfold freeOk at h
  cases hf : isFam l with
  | false =>
    have Hf := Lib.hid hf
    clear h hf
    go_enter Try.func36, Try.ntmps36
    go_wp2_with fail
    refine (isFamily_any A cp l _ hr).mono ?_
    rw [Hf.out]
    rintro e w1 ⟨rfl, hB1⟩
    go_wp2
    go_ret2
    exact ⟨_, rfl, Kd.R_nil _ _ _ _ _, hB1⟩
  | true =>
    have Hf := Lib.hid hf
    cases hk : (decide (1 ≤ k) && decide (k ≤ 4)) with
    | false =>
      have Hk := Lib.hid hk
      clear h hf hk
      go_enter Try.func36, Try.ntmps36
      go_wp2_with fail
      refine (isFamily_any A cp l _ hr).mono ?_
      rw [Hf.out]
      rintro e w1 ⟨rfl, hB1⟩
      go_wp2_with (go_at_call 43; refine (within_any _ _ _ false _ Hk.out).mono ?_; rintro e w2 ⟨rfl, rfl⟩)
      go_ret2
      exact ⟨_, rfl, Kd.R_nil _ _ _ _ _, hB1⟩
    | true =>
      have hn : (decide (0 ≤ n) && decide (n ≤ 30)) = false := by rw [hf, hk] at h; simpa using h
      have Hk := Lib.hid hk
      have Hn := Lib.hid hn
      clear h hf hk hn
      go_enter Try.func36, Try.ntmps36
      go_wp2_with fail
      refine (isFamily_any A cp l _ hr).mono ?_
      rw [Hf.out]
      rintro e w1 ⟨rfl, hB1⟩
      go_wp2_with fail
      refine (within_any _ _ _ true _ Hk.out).mono ?_
      rintro e w1' ⟨rfl, rfl⟩
      go_wp2_with fail
      refine (within_any _ _ _ false _ Hn.out).mono ?_
      rintro e w1' ⟨rfl, rfl⟩
      go_wp2
      go_ret2
      exact ⟨_, rfl, Kd.R_nil _ _ _ _ _, hB1⟩

theorem Given.thread_Free.calls (A0 : Option Addr) (c0 : Nat) (l0 : List ByteArray) (a1 a2 : Int) (r1 : List Int) (r2 : Int) (w : World) (hr0 : Kd.C Kd.string w A0 l0.length l0) (_hc0 : l0.length ≤ c0) (h : Given.thread_Free.f l0 a1 a2 = some (r1, r2)) :
    Calls Try.prog 36 #[.slice A0 l0.length c0, .int .i64 a1, .int .i64 a2] w fun e w' => ∃ v0_ : Value, e = .returned (.tuple #[v0_, .int .i64 r2]) ∧ Kd.R (Kd.int .i64) 3 w' w.heap.size (fun _ => True) v0_ r1 ∧ Below w.heap.size w w' := by
  show Calls Try.prog 36 #[.slice A0 l0.length c0, .int .i64 a1, .int .i64 a2] w (WithinPost r1 r2 w)
  have hs := SR.of w A0 l0 hr0
  unfold Given.thread_Free.f at h
  cases hu : freeOk l0 a1 a2 with
  | false =>
    rw [hu] at h
    obtain ⟨rfl, rfl⟩ : ([] : List Int) = r1 ∧ (2 : Int) = r2 := by simpa using h
    exact free_no A0 c0 l0 a1 a2 w hs hu
  | true =>
    rw [hu, if_pos rfl] at h
    unfold freeOk at hu
    simp only [Bool.and_eq_true, decide_eq_true_eq] at hu
    obtain ⟨hf, ⟨h1, h2⟩, h3, h4⟩ := hu
    obtain ⟨k, rfl⟩ : ∃ n : Nat, a1 = n := ⟨a1.toNat, by omega⟩
    obtain ⟨n, rfl⟩ : ∃ n : Nat, a2 = n := ⟨a2.toNat, by omega⟩
    obtain ⟨rfl, rfl⟩ : zs (freeOut l0 k n) = r1 ∧ (0 : Int) = r2 := by simpa using h
    exact free_walk A0 c0 l0 k n w hs hf (by omega) (by omega)
end Go.Proofs.Ytfjbodaakmapdaa
