/-
  Maps by plain data: an entry that is fetched and stored into ('m[k] += v'). No program in sight.
-/
import Derived.Test.YtfjbodaakmapdaaMap
namespace Go.Proofs.Ytfjbodaakmapdaa.Kit
open Go.RowKit
open Go.ChangeMaps (setBlock)

variable {κ ν : Type} [DecidableEq κ] {P : Program} {K T E : TypeId} {kf : κ → Value} {vf : ν → Value} {ok : κ → Prop} {w w' : World} {b : Nat} {l : List (κ × ν)}

theorem ME.push {es : Array MapEntry} {clock : Nat} (m : ME kf vf ok es clock l) {k : κ} (hk : ok k) (hn : getL l k = none) (v : ν) : ME kf vf ok (es.push ⟨kf k, vf v, clock⟩) (clock + 1) (putL l k v) := by
  unfold putL
  rw [hn]
  have hn := getL_none.1 hn
  refine ⟨by simp [m.is], ?_, ?_, ?_, ?_⟩
  · intro e he
    simp only [Array.toList_push, List.mem_append, List.mem_singleton] at he
    rcases he with he | rfl
    · have := m.born e he; omega
    · simp
  · simp only [Array.toList_push, List.map_append, List.map_cons, List.map_nil]
    rw [List.nodup_append]
    refine ⟨m.apart, by simp, ?_⟩
    intro a ha c hc
    obtain ⟨e, he, rfl⟩ := List.mem_map.1 ha
    obtain rfl := List.mem_singleton.1 hc
    have := m.born e he; omega
  · simp only [Option.isSome_none, Bool.false_eq_true, if_false, List.map_append, List.map_cons, List.map_nil]
    rw [List.nodup_append]
    refine ⟨m.keys, by simp, ?_⟩
    intro a ha c hc
    obtain ⟨p, hp, rfl⟩ := List.mem_map.1 ha
    obtain rfl := List.mem_singleton.1 hc
    exact hn p hp
  · intro p hp
    simp only [Option.isSome_none, Bool.false_eq_true, if_false, List.mem_append, List.mem_singleton] at hp
    rcases hp with hp | rfl
    · exact m.ok p hp
    · exact hk

theorem putL_set {k : κ} {u : ν} (hn : (l.map (·.1)).Nodup) {j : Nat} (h3 : l[j]? = some (k, u)) (v : ν) : putL l k v = l.set j (k, v) := by
  unfold putL
  rw [getL_at hn h3]
  simp only [Option.isSome_some, if_true]
  apply List.ext_getElem?
  intro i
  rw [List.getElem?_map, List.getElem?_set]
  obtain ⟨hjl, hje⟩ := List.getElem?_eq_some_iff.1 h3
  by_cases hij : j = i
  · subst hij
    rw [if_pos rfl, if_pos hjl, h3]; simp
  · rw [if_neg hij]
    cases hi : l[i]? with
    | none => rfl
    | some p =>
      simp only [Option.map_some]
      rw [if_neg]
      intro e2
      obtain ⟨hil, hie⟩ := List.getElem?_eq_some_iff.1 hi
      have h4 : (l.map (·.1))[i]'(by simpa using hil) = (l.map (·.1))[j]'(by simpa using hjl) := by simp [hie, hje, e2]
      exact hij (nodup_inj hn _ _ h4).symm

theorem ME.set {es es' : Array MapEntry} {clock : Nat} (m : ME kf vf ok es clock l) {k : κ} {u : ν} (hk : ok k) {j : Nat} (h3 : l[j]? = some (k, u)) {e : MapEntry} (he : es[j]? = some e) (v : ν)
    (h : es'.toList = es.toList.set j { e with key := kf k, val := vf v }) : ME kf vf ok es' clock (putL l k v) := by
  have hj := (Array.getElem?_eq_some_iff.1 he).1
  have hbn : (es.toList.set j { e with key := kf k, val := vf v }).map (·.born) = es.toList.map (·.born) := by
    rw [List.map_set]
    apply List.ext_getElem?
    intro i
    rw [List.getElem?_set]
    by_cases hij : j = i
    · subst hij
      rw [if_pos rfl, if_pos (by simpa using hj), List.getElem?_map, Array.getElem?_toList, he]; rfl
    · rw [if_neg hij]
  rw [putL_set m.keys h3]
  refine ⟨?_, ?_, ?_, ?_, ?_⟩
  · rw [h, List.map_set, List.map_set, m.is]
  · rw [h]
    intro x hx
    have h5 : x.born ∈ (es.toList.set j { e with key := kf k, val := vf v }).map (·.born) := List.mem_map.2 ⟨x, hx, rfl⟩
    rw [hbn] at h5
    obtain ⟨y, hy, e3⟩ := List.mem_map.1 h5
    rw [← e3]; exact m.born y hy
  · rw [h, hbn]; exact m.apart
  · rw [List.map_set]
    have : (l.map (·.1)).set j k = l.map (·.1) := by
      apply List.ext_getElem?
      intro i
      rw [List.getElem?_set]
      by_cases hij : j = i
      · subst hij
        rw [if_pos rfl, List.getElem?_map, h3]
        simp [(List.getElem?_eq_some_iff.1 h3).1]
      · rw [if_neg hij]
    rw [this]; exact m.keys
  · intro p hp
    rcases List.mem_or_eq_of_mem_set hp with hp | rfl
    · exact m.ok p hp
    · exact hk

omit [DecidableEq κ] in
theorem toList_modify_at {es : Array MapEntry} {j : Nat} {e : MapEntry} (he : es[j]? = some e) (f : MapEntry → MapEntry) : (es.modify j f).toList = es.toList.set j (f e) := by
  have hj := (Array.getElem?_eq_some_iff.1 he).1
  rw [Array.toList_modify]
  apply List.ext_getElem?
  intro i
  rw [List.getElem?_modify, List.getElem?_set]
  by_cases hij : j = i
  · subst hij
    have : es.toList[j]? = some e := by simpa using he
    rw [this]; simp [hj]
  · cases es.toList[i]? <;> simp [hij]

theorem findBorn {es : Array MapEntry} (hn : (es.toList.map (·.born)).Nodup) {j : Nat} {e : MapEntry} (he : es[j]? = some e) : es.findIdx? (fun x => ((x.born : Nat) : Int) == ((e.born : Nat) : Int)) = some j := by
  obtain ⟨hj, hje⟩ := Array.getElem?_eq_some_iff.1 he
  rw [Array.findIdx?_eq_some_iff_getElem]
  refine ⟨hj, by rw [hje]; simp, fun i hi => ?_⟩
  have hne : es[i].born ≠ e.born := fun e1 => by
    have h4 : (es.toList.map (·.born))[i]'(by simp; omega) = (es.toList.map (·.born))[j]'(by simpa using hj) := by simp [hje, e1]
    have := nodup_inj hn _ _ h4
    omega
  simp; omega

theorem MB.entry (H : KF P K kf ok) (h : MB w b kf vf ok l) (ht : P.underlying T = some (.map K E)) {z : ν} (hz : ∀ u : World, (zeroValue E).run P u = .ok (vf z) u) (k : κ) (hk : ok k) :
    ∃ es1 clock1 st, (Instr.mapEntry T (.map (some b)) (kf k)).run P w = .ok (.tuple #[vf ((getL l k).getD z), goInt (st : Nat)]) (setBlock w b (.map es1 clock1)) ∧ MB (setBlock w b (.map es1 clock1)) b kf vf ok (putL l k ((getL l k).getD z)) ∧
      ∀ (w2 : World) (u : ν), w2.heap[b]? = some (.map es1 clock1) → ∃ es2 clock2, (Instr.entryStore T (.map (some b)) (goInt (st : Nat)) (vf u)).run P w2 = .ok () (setBlock w2 b (.map es2 clock2)) ∧ MB (setBlock w2 b (.map es2 clock2)) b kf vf ok (putL l k u) := by
  have hlt := h.lt
  obtain ⟨es, clock, hb, m⟩ := h.out
  obtain ⟨lx, hlx⟩ := H.key k hk
  rcases m.find H w k hk with ⟨h1, h2⟩ | ⟨j, v, h1, h3, h2⟩
  · rw [h2, Option.getD_none]
    have m1 := m.push hk h2 z
    refine ⟨es.push ⟨kf k, vf z, clock⟩, clock + 1, clock, ?_, ⟨_, _, heap_block hlt _, m1⟩, fun w2 u hw2 => ?_⟩
    · simp [Instr.mapEntry, run_underlying ht, MapKept.run_getObj_map hb, H.law.check w false hlx, h1, hz, MapKept.run_setObj_map _ hb, Result.andThen, setBlock]
    · have hat : (es.push ⟨kf k, vf z, clock⟩)[es.size]? = some ⟨kf k, vf z, clock⟩ := by simp
      have hidx := findBorn m1.apart hat
      refine ⟨(es.push ⟨kf k, vf z, clock⟩).modify es.size (fun e => { e with val := vf u }), clock + 1, ?_, ⟨_, _, heap_block (Array.getElem?_eq_some_iff.1 hw2).1 _, ?_⟩⟩
      · simp only at hidx
        simp [Instr.entryStore, MapKept.run_getObj_map hw2, asInt, asIntOf, goInt, hidx, MapKept.run_setObj_map _ hw2, Result.andThen, setBlock]
      · have e1 : (es.push ⟨kf k, vf z, clock⟩).modify es.size (fun e => { e with val := vf u }) = es.push ⟨kf k, vf u, clock⟩ := by
          apply Array.ext'
          rw [toList_modify_at hat, Array.toList_push, Array.toList_push, ← Array.length_toList, List.set_append_right _ _ (Nat.le_refl _)]
          simp
        rw [e1]
        exact m.push hk h2 u
  · rw [h2, Option.getD_some]
    obtain ⟨e, he, hek, hev⟩ := m.at h3
    have m1 := m.set hk h3 he v (es' := es.modify j fun e => { e with key := kf k }) (by
      rw [toList_modify_at he]
      have : ({ e with key := kf k } : MapEntry) = { e with key := kf k, val := vf v } := by rw [← hev]
      rw [this])
    have hs := H.law.stays w hlx
    refine ⟨es.modify j fun e => { e with key := kf k }, clock, e.born, ?_, ⟨_, _, heap_block hlt _, m1⟩, fun w2 u hw2 => ?_⟩
    · simp [Instr.mapEntry, run_underlying ht, MapKept.run_getObj_map hb, H.law.check w false hlx, h1, he, hek, hs, MapKept.run_setObj_map _ hb, Result.andThen, setBlock]
    · have hat : (es.modify j fun e => { e with key := kf k })[j]? = some { e with key := kf k } := by
        rw [← Array.getElem?_toList, toList_modify_at he, List.getElem?_set_self (by simpa using (Array.getElem?_eq_some_iff.1 he).1)]
      have hidx := findBorn m1.apart hat
      refine ⟨(es.modify j fun e => { e with key := kf k }).modify j (fun e => { e with val := vf u }), clock, ?_, ⟨_, _, heap_block (Array.getElem?_eq_some_iff.1 hw2).1 _, ?_⟩⟩
      · simp only at hidx
        simp [Instr.entryStore, MapKept.run_getObj_map hw2, asInt, asIntOf, goInt, hidx, MapKept.run_setObj_map _ hw2, Result.andThen, setBlock]
      · refine m.set hk h3 he u ?_
        rw [toList_modify_at hat, toList_modify_at he, List.set_set]
end Go.Proofs.Ytfjbodaakmapdaa.Kit
