/-
  Maps whose keys and values are named by plain data: what a look-up, a store and a step of a range do. No program in sight.
-/
import Derived.Maps.RangeWalk
import Derived.Maps.OwnIn
import Derived.DeepKeys4
import Derived.Test.YtfjbodaakmapdaaRfk
namespace Go.Proofs.Ytfjbodaakmapdaa.Kit
open Go.RowKit
open Go.ChangeMaps (setBlock)

variable {κ ν : Type}

/-- The keys of a map's type, named by plain data. -/
structure KF (P : Program) (K : TypeId) (kf : κ → Value) (ok : κ → Prop) : Prop where
  law : Go.Maps.Keyed P K
  key : ∀ x, ok x → ∃ l, keyOf P K (kf x) = some l
  inj : ∀ x y, kf x = kf y → x = y

theorem nodup_inj {α : Type} {l : List α} (h : l.Nodup) {i j : Nat} (hi : i < l.length) (hj : j < l.length) (e : l[i] = l[j]) : i = j := by
  have hp := List.pairwise_iff_getElem.1 h
  rcases Nat.lt_trichotomy i j with h1 | h1 | h1
  · exact absurd e (hp i j hi hj h1)
  · exact h1
  · exact absurd e.symm (hp j i hj hi h1)

def getL [DecidableEq κ] (l : List (κ × ν)) (k : κ) : Option ν := (l.find? fun p => p.1 = k).map (·.2)
def putL [DecidableEq κ] (l : List (κ × ν)) (k : κ) (v : ν) : List (κ × ν) := if (getL l k).isSome then l.map (fun p => if p.1 = k then (k, v) else p) else l ++ [(k, v)]

/-- The entries of a map's block, named by plain data, in the order of their coming. -/
structure ME (kf : κ → Value) (vf : ν → Value) (ok : κ → Prop) (es : Array MapEntry) (clock : Nat) (l : List (κ × ν)) : Prop where
  is : es.toList.map (fun e => (e.key, e.val)) = l.map (fun p => (kf p.1, vf p.2))
  born : ∀ e ∈ es.toList, e.born < clock
  apart : (es.toList.map (·.born)).Nodup
  keys : (l.map (·.1)).Nodup
  ok : ∀ p ∈ l, ok p.1

structure MB (w : World) (b : Nat) (kf : κ → Value) (vf : ν → Value) (ok : κ → Prop) (l : List (κ × ν)) : Prop where
  out : ∃ es clock, w.heap[b]? = some (.map es clock) ∧ ME kf vf ok es clock l

variable {P : Program} {K T E : TypeId} {kf : κ → Value} {vf : ν → Value} {ok : κ → Prop} {w w' : World} {b : Nat} {l : List (κ × ν)}

theorem MB.lt (h : MB w b kf vf ok l) : b < w.heap.size := by
  obtain ⟨es, clock, hb, _⟩ := h.out
  exact (Array.getElem?_eq_some_iff.1 hb).1
theorem MB.same (h : MB w b kf vf ok l) (e : w'.heap[b]? = w.heap[b]?) : MB w' b kf vf ok l := by
  obtain ⟨es, clock, hb, hm⟩ := h.out
  exact ⟨es, clock, e.trans hb, hm⟩
theorem MB.alloc (h : MB w b kf vf ok l) (x : Obj) : MB (w.alloc x) b kf vf ok l := h.same (Below.heap_alloc w x b h.lt)
theorem MB.drewN (h : MB w b kf vf ok l) (n : Nat) : MB (w.drewN n) b kf vf ok l := h.same rfl
theorem MB.drew (h : MB w b kf vf ok l) : MB w.drew b kf vf ok l := h.same rfl
theorem MB.setCell (h : MB w b kf vf ok l) (p : Addr) (hp : b ≠ p.block) (v : Value) : MB (w.setCell p v) b kf vf ok l := h.same (Below.heap_setCell w p v b hp)
theorem MB.below {B : Nat} (h : MB w b kf vf ok l) (hb : Below B w w') (hB : b < B) : MB w' b kf vf ok l := h.same (hb.block b hB)
theorem MB.but {S : Nat → Prop} (h : MB w b kf vf ok l) (hb : But S w w') (hs : ¬ S b) : MB w' b kf vf ok l := h.same (hb.block b h.lt hs)
theorem MB.grown {row : Option Nat} (h : MB w b kf vf ok l) (hg : w.grownBy w' row) (hr : some b ≠ row) : MB w' b kf vf ok l := h.same (hg.block b h.lt hr)
theorem MB.new (w : World) (kf : κ → Value) (vf : ν → Value) (ok : κ → Prop) : MB (w.alloc (.map #[] 0)) w.heap.size kf vf ok [] :=
  ⟨⟨#[], 0, (MapKept.heap_alloc w _).1, ⟨rfl, by simp, by simp, by simp, by simp⟩⟩⟩

theorem ME.get {es : Array MapEntry} {clock : Nat} (m : ME kf vf ok es clock l) {j : Nat} {e : MapEntry} (h : es[j]? = some e) : ∃ p, l[j]? = some p ∧ e.key = kf p.1 ∧ e.val = vf p.2 := by
  have h1 := congrArg (fun z => z[j]?) m.is
  simp only [List.getElem?_map, Array.getElem?_toList, h, Option.map_some] at h1
  cases hl : l[j]? with
  | none => rw [hl] at h1; cases h1
  | some p =>
    rw [hl] at h1
    simp only [Option.map_some, Option.some.injEq, Prod.mk.injEq] at h1
    exact ⟨p, rfl, h1.1, h1.2⟩
theorem ME.len {es : Array MapEntry} {clock : Nat} (m : ME kf vf ok es clock l) : es.size = l.length := by
  have := congrArg List.length m.is
  simpa using this
theorem ME.at {es : Array MapEntry} {clock : Nat} (m : ME kf vf ok es clock l) {j : Nat} {p : κ × ν} (h : l[j]? = some p) : ∃ e, es[j]? = some e ∧ e.key = kf p.1 ∧ e.val = vf p.2 := by
  have hj : j < es.size := by rw [m.len]; exact (List.getElem?_eq_some_iff.1 h).1
  obtain ⟨q, hq, h1, h2⟩ := m.get (Array.getElem?_eq_getElem hj)
  rw [h] at hq
  cases hq
  exact ⟨_, Array.getElem?_eq_getElem hj, h1, h2⟩

variable [DecidableEq κ]
theorem getL_none {k : κ} : getL l k = none ↔ ∀ p ∈ l, p.1 ≠ k := by
  unfold getL
  rw [Option.map_eq_none_iff, List.find?_eq_none]
  simp
theorem getL_at (hn : (l.map (·.1)).Nodup) {j : Nat} {p : κ × ν} (h : l[j]? = some p) : getL l p.1 = some p.2 := by
  unfold getL
  have : l.find? (fun q => q.1 = p.1) = some p := by
    rw [List.find?_eq_some_iff_getElem]
    obtain ⟨hj, e⟩ := List.getElem?_eq_some_iff.1 h
    refine ⟨by simp, j, hj, e, fun i hi => ?_⟩
    simp only [Bool.not_eq_true', decide_eq_false_iff_not]
    intro e2
    have h3 : (l.map (·.1))[i]'(by simp; omega) = (l.map (·.1))[j]'(by simpa using hj) := by simp [e, e2]
    have := nodup_inj hn _ _ h3
    omega
  rw [this]; rfl

/-- Where a key stands. -/
theorem ME.find (H : KF P K kf ok) {es : Array MapEntry} {clock : Nat} (m : ME kf vf ok es clock l) (w : World) (k : κ) (hk : ok k) :
    ((Instr.findKey K (kf k) es.toList).run P w = .ok none w ∧ getL l k = none) ∨
    ∃ j v, (Instr.findKey K (kf k) es.toList).run P w = .ok (some (j, vf v)) w ∧ l[j]? = some (k, v) ∧ getL l k = some v := by
  obtain ⟨lx, hlx⟩ := H.key k hk
  rcases H.law.find w hlx es.toList (fun e he => by
    obtain ⟨j, hj⟩ := List.getElem?_of_mem he
    obtain ⟨p, hp, h1, _⟩ := m.get (by simpa using hj)
    rw [h1]
    exact H.key p.1 (m.ok p (List.mem_of_getElem? hp))) with ⟨h1, h2⟩ | ⟨j, e, h1, h2, h3⟩
  · refine .inl ⟨h1, getL_none.2 fun p hp e => ?_⟩
    obtain ⟨j, hj⟩ := List.getElem?_of_mem hp
    obtain ⟨e', he', h4, _⟩ := m.at hj
    exact h2 e' (List.mem_of_getElem? (by simpa using he')) (by rw [h4, e])
  · obtain ⟨p, hp, h4, h5⟩ := m.get (by simpa using h2)
    have hpk : p.1 = k := H.inj _ _ (by rw [← h4, h3])
    obtain ⟨pk, pv⟩ := p
    simp only at hpk h5
    subst hpk
    exact .inr ⟨j, pv, by rw [h1, h5], hp, getL_at m.keys hp⟩

theorem MB.look (H : KF P K kf ok) (h : MB w b kf vf ok l) (ht : P.underlying T = some (.map K E)) {z : Value} (hz : (zeroValue E).run P w = .ok z w) (k : κ) (hk : ok k) (c : Bool) :
    (Instr.lookup T (.map (some b)) (kf k) c).run P w = .ok (if c then .tuple #[((getL l k).map vf).getD z, .bool (getL l k).isSome] else ((getL l k).map vf).getD z) w := by
  obtain ⟨es, clock, hb, m⟩ := h.out
  obtain ⟨lx, hlx⟩ := H.key k hk
  rcases m.find H w k hk with ⟨h1, h2⟩ | ⟨j, v, h1, _, h2⟩
  · cases c <;> simp [Instr.lookup, run_underlying ht, MapKept.run_getObj_map hb, H.law.check w _ hlx, h1, h2, hz, Result.andThen]
  · cases c <;> simp [Instr.lookup, run_underlying ht, MapKept.run_getObj_map hb, H.law.check w _ hlx, h1, h2, Result.andThen]

theorem heap_block (hb : b < w.heap.size) (o : Obj) : (setBlock w b o).heap[b]? = some o := by
  simp [setBlock, hb]
theorem heap_block_ne {c : Nat} (hc : c ≠ b) (o : Obj) : (setBlock w b o).heap[c]? = w.heap[c]? := by
  simp [setBlock, Array.getElem?_setIfInBounds_ne (Ne.symm hc)]

theorem MB.store (H : KF P K kf ok) (h : MB w b kf vf ok l) (ht : P.underlying T = some (.map K E)) (k : κ) (hk : ok k) (v : ν) :
    ∃ es clock, (Instr.mapUpdate T (.map (some b)) (kf k) (vf v)).run P w = .ok () (setBlock w b (.map es clock)) ∧ MB (setBlock w b (.map es clock)) b kf vf ok (putL l k v) := by
  have hlt := h.lt
  obtain ⟨es, clock, hb, m⟩ := h.out
  obtain ⟨lx, hlx⟩ := H.key k hk
  rcases m.find H w k hk with ⟨h1, h2⟩ | ⟨j, u, h1, h3, h2⟩
  · refine ⟨es.push ⟨kf k, vf v, clock⟩, clock + 1, ?_, ⟨_, _, heap_block hlt _, ?_⟩⟩
    · simp [Instr.mapUpdate, run_underlying ht, MapKept.run_getObj_map hb, H.law.check w _ hlx, h1, MapKept.run_setObj_map _ hb, Result.andThen, setBlock]
    · unfold putL
      rw [h2]
      have hn := getL_none.1 h2
      refine ⟨by simp [m.is], ?_, ?_, ?_, ?_⟩
      · intro e he
        simp only [Array.toList_push, List.mem_append, List.mem_singleton] at he
        rcases he with he | rfl
        · have := m.born e he; omega
        · simp
      · simp only [Array.toList_push, List.map_append, List.map_cons, List.map_nil]
        rw [List.nodup_append]
        refine ⟨m.apart, by simp, ?_⟩
        intro a ha c hc
        obtain ⟨e, he, rfl⟩ := List.mem_map.1 ha
        obtain rfl := List.mem_singleton.1 hc
        have := m.born e he; omega
      · simp only [Option.isSome_none, Bool.false_eq_true, if_false, List.map_append, List.map_cons, List.map_nil]
        rw [List.nodup_append]
        refine ⟨m.keys, by simp, ?_⟩
        intro a ha c hc
        obtain ⟨p, hp, rfl⟩ := List.mem_map.1 ha
        obtain rfl := List.mem_singleton.1 hc
        exact hn p hp
      · intro p hp
        simp only [Option.isSome_none, Bool.false_eq_true, if_false, List.mem_append, List.mem_singleton] at hp
        rcases hp with hp | rfl
        · exact m.ok p hp
        · exact hk
  · obtain ⟨e, he, hek, hev⟩ := m.at h3
    have hj := (Array.getElem?_eq_some_iff.1 he).1
    have hput : putL l k v = l.set j (k, v) := by
      unfold putL
      rw [h2]
      simp only [Option.isSome_some, if_true]
      apply List.ext_getElem?
      intro i
      rw [List.getElem?_map, List.getElem?_set]
      obtain ⟨hjl, hje⟩ := List.getElem?_eq_some_iff.1 h3
      by_cases hij : j = i
      · subst hij
        rw [if_pos rfl, if_pos hjl, h3]; simp
      · rw [if_neg hij]
        cases hi : l[i]? with
        | none => rfl
        | some p =>
          simp only [Option.map_some]
          rw [if_neg]
          intro e2
          obtain ⟨hil, hie⟩ := List.getElem?_eq_some_iff.1 hi
          have h4 : (l.map (·.1))[i]'(by simpa using hil) = (l.map (·.1))[j]'(by simpa using hjl) := by simp [hie, hje, e2]
          exact hij (nodup_inj m.keys _ _ h4).symm
    have hl2 : (es.modify j fun e => { e with key := kf k, val := vf v }).toList = es.toList.set j { e with key := kf k, val := vf v } := by
      rw [Array.toList_modify]
      apply List.ext_getElem?
      intro i
      rw [List.getElem?_modify, List.getElem?_set]
      by_cases hij : j = i
      · subst hij
        have : es.toList[j]? = some e := by simpa using he
        rw [this]; simp [hj]
      · cases es.toList[i]? <;> simp [hij]
    have hbn : (es.toList.set j { e with key := kf k, val := vf v }).map (·.born) = es.toList.map (·.born) := by
      rw [List.map_set]
      apply List.ext_getElem?
      intro i
      rw [List.getElem?_set]
      by_cases hij : j = i
      · subst hij
        rw [if_pos rfl, if_pos (by simpa using hj), List.getElem?_map, Array.getElem?_toList, he]; rfl
      · rw [if_neg hij]
    refine ⟨es.modify j fun e => { e with key := kf k, val := vf v }, clock, ?_, ⟨_, _, heap_block hlt _, ?_⟩⟩
    · have hs := H.law.stays w hlx
      simp [Instr.mapUpdate, run_underlying ht, MapKept.run_getObj_map hb, H.law.check w _ hlx, h1, he, hek, hs, MapKept.run_setObj_map _ hb, Result.andThen, setBlock]
    · rw [hput]
      refine ⟨?_, ?_, ?_, ?_, ?_⟩
      · rw [hl2, List.map_set, List.map_set, m.is]
      · rw [hl2]
        intro x hx
        have h5 : x.born ∈ (es.toList.set j { e with key := kf k, val := vf v }).map (·.born) := List.mem_map.2 ⟨x, hx, rfl⟩
        rw [hbn] at h5
        obtain ⟨y, hy, e3⟩ := List.mem_map.1 h5
        rw [← e3]; exact m.born y hy
      · rw [hl2, hbn]; exact m.apart
      · rw [List.map_set]
        have : (l.map (·.1)).set j k = l.map (·.1) := by
          apply List.ext_getElem?
          intro i
          rw [List.getElem?_set]
          by_cases hij : j = i
          · subst hij
            rw [if_pos rfl, List.getElem?_map, h3]
            simp [(List.getElem?_eq_some_iff.1 h3).1]
          · rw [if_neg hij]
        rw [this]; exact m.keys
      · intro p hp
        rcases List.mem_or_eq_of_mem_set hp with hp | rfl
        · exact m.ok p hp
        · exact hk

/-! ### A range over a map -/
omit [DecidableEq κ]
/-- Block r is an iterator over block b's map l; left: what is still to come. -/
structure MR (w : World) (b r : Nat) (kf : κ → Value) (vf : ν → Value) (ok : κ → Prop) (l left : List (κ × ν)) : Prop where
  out : ∃ es clock seen, w.heap[b]? = some (.map es clock) ∧ ME kf vf ok es clock l ∧ w.heap[r]? = some (.mapIter (some b) clock seen clock) ∧
    (leftOf es seen).toList.map (fun e => (e.key, e.val)) = left.map (fun p => (kf p.1, vf p.2))

variable {left : List (κ × ν)} {r : Nat}
theorem MR.lt (h : MR w b r kf vf ok l left) : b < w.heap.size ∧ r < w.heap.size := by
  obtain ⟨es, clock, seen, hb, _, hr, _⟩ := h.out
  exact ⟨(Array.getElem?_eq_some_iff.1 hb).1, (Array.getElem?_eq_some_iff.1 hr).1⟩
theorem MR.same (h : MR w b r kf vf ok l left) (e1 : w'.heap[b]? = w.heap[b]?) (e2 : w'.heap[r]? = w.heap[r]?) : MR w' b r kf vf ok l left := by
  obtain ⟨es, clock, seen, hb, hm, hr, hl⟩ := h.out
  exact ⟨es, clock, seen, e1.trans hb, hm, e2.trans hr, hl⟩
theorem MR.map (h : MR w b r kf vf ok l left) : MB w b kf vf ok l := by
  obtain ⟨es, clock, seen, hb, hm, _⟩ := h.out
  exact ⟨es, clock, hb, hm⟩

theorem MB.range (h : MB w b kf vf ok l) (ht : P.underlying T = some (.map K E)) :
    ∃ w', (Instr.range T (.map (some b))).run P w = .ok (.pointer (some ⟨w.heap.size, 0, none⟩)) w' ∧ MR w' b w.heap.size kf vf ok l l ∧ Below w.heap.size w w' ∧ w'.heap.size = w.heap.size + 1 := by
  have hlt := h.lt
  obtain ⟨es, clock, hb, m⟩ := h.out
  refine ⟨_, run_range_map w T K E b es clock ht hb, ⟨es, clock, #[], ((MapKept.heap_alloc w _).2 b hlt).trans hb, m, (MapKept.heap_alloc w _).1, ?_⟩, (Below.refl _ _).alloc (Nat.le_refl _) _, by simp⟩
  rw [← m.is]; unfold leftOf; rw [Array.toList_filter, List.filter_eq_self.2 (by simp)]

theorem map_split {α β : Type} {f : α → β} : ∀ {l : List α} {a c : List β} {x : β}, l.map f = a ++ x :: c → ∃ a' x' c', l = a' ++ x' :: c' ∧ a'.map f = a ∧ f x' = x ∧ c'.map f = c := by
  intro l a c x h
  obtain ⟨l1, l2, rfl, h1, h2⟩ := List.map_eq_append_iff.1 h
  obtain ⟨x', c', rfl, h3, h4⟩ := List.map_eq_cons_iff.1 h2
  exact ⟨l1, x', c', rfl, h1, h3, h4⟩

theorem filter_out {es : List MapEntry} (hn : (es.map (·.born)).Nodup) {a c : List MapEntry} {e : MapEntry} (h : es = a ++ e :: c) : es.filter (fun x => !(x.born == e.born)) = a ++ c := by
  subst h
  simp only [List.map_append, List.map_cons] at hn
  rw [List.nodup_append] at hn
  obtain ⟨_, h2, h3⟩ := hn
  obtain ⟨h4, _⟩ := List.nodup_cons.1 h2
  rw [List.filter_append, List.filter_cons]
  rw [List.filter_eq_self.2, List.filter_eq_self.2]
  · simp
  · intro x hx
    have : x.born ≠ e.born := fun e1 => h4 (e1 ▸ List.mem_map.2 ⟨x, hx, rfl⟩)
    simpa using this
  · intro x hx
    have : x.born ≠ e.born := h3 x.born (List.mem_map.2 ⟨x, hx, rfl⟩) e.born (by simp)
    simpa using this

theorem MR.next (h : MR w b r kf vf ok l left) (ty : TypeId) :
    (left = [] ∧ (Instr.next (.pointer (some ⟨r, 0, none⟩)) false ty).run P w = .ok (.tuple #[.bool false]) w) ∨
    ∃ a x c w', left = a ++ x :: c ∧ (Instr.next (.pointer (some ⟨r, 0, none⟩)) false ty).run P w = .ok (.tuple #[.bool true, kf x.1, vf x.2]) w' ∧ MR w' b r kf vf ok l (a ++ c) ∧
      w.grownBy w' (some r) ∧ w'.heap.size = w.heap.size ∧ (∃ o : Obj, w'.heap[r]? = some o ∧ o.isCells = false) ∧ (Instr.entry (.pointer (some ⟨r, 0, none⟩))).run P w' = .ok (.tuple #[kf x.1, vf x.2]) w' := by
  have hlt := h.lt
  obtain ⟨es, clock, seen, hb, m, hr, hl⟩ := h.out
  rcases run_next_at (P := P) w ty r b clock clock seen es clock hr hb m.born (Nat.le_refl _) with ⟨h0, hrun⟩ | ⟨e, he, w1, hal, hrun⟩
  · have := congrArg List.length hl
    simp [h0] at this
    exact .inl ⟨List.eq_nil_of_length_eq_zero this.symm, hrun⟩
  · obtain ⟨A, C, hAC⟩ := List.append_of_mem he
    have hl' := hl
    rw [hAC, List.map_append, List.map_cons] at hl'
    obtain ⟨a, x, c, rfl, h1, h2, h3⟩ := map_split hl'.symm
    have hrb : b ≠ r := fun e1 => by subst e1; rw [hb] at hr; cases hr
    have hem : e ∈ es.toList := by
      unfold leftOf at he; simp at he ⊢; exact he.1
    have hw : w1.heap = w.heap := by rcases hal with rfl | rfl <;> rfl
    have hr' : (setBlock w1 r (.mapIter (some b) clock (seen.push e.born) clock)).heap[r]? = some (.mapIter (some b) clock (seen.push e.born) clock) := heap_block (by rw [hw]; exact hlt.2) _
    have hb' : (setBlock w1 r (.mapIter (some b) clock (seen.push e.born) clock)).heap[b]? = some (.map es clock) := by rw [heap_block_ne hrb, hw]; exact hb
    refine .inr ⟨a, x, c, _, rfl, ?_, ⟨es, clock, seen.push e.born, hb', m, hr', ?_⟩, ?_, ?_, ⟨_, hr', rfl⟩, ?_⟩
    · rw [hrun]
      have : (kf x.1, vf x.2) = (e.key, e.val) := h2
      obtain ⟨h5, h6⟩ := Prod.mk.inj this
      rw [h5, h6]
    · have e1 : (leftOf es (seen.push e.born)).toList = (leftOf es seen).toList.filter (fun x => !(x.born == e.born)) := by
        unfold leftOf
        rw [Array.toList_filter, Array.toList_filter, List.filter_filter]
        congr 1
        funext y
        simp only [Array.contains_push, Bool.not_or]
        rw [Bool.and_comm]
      rw [e1, filter_out ?_ hAC, List.map_append, List.map_append, h1, h3]
      unfold leftOf
      rw [Array.toList_filter]
      exact (List.Sublist.map _ List.filter_sublist).nodup m.apart
    · rcases hal with rfl | rfl <;> exact ⟨rfl, rfl, rfl, by simp [setBlock], fun i _ hi => heap_block_ne (fun e1 => hi (by rw [e1])) _⟩
    · rcases hal with rfl | rfl <;> simp [setBlock]
    · have : (kf x.1, vf x.2) = (e.key, e.val) := h2
      obtain ⟨h5, h6⟩ := Prod.mk.inj this
      rw [h5, h6]
      exact run_entry_at _ r b clock seen es clock e hr' hb' hem m.apart
end Go.Proofs.Ytfjbodaakmapdaa.Kit
