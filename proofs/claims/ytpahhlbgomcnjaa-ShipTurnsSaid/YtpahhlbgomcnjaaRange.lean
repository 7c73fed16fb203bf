/- A range over a map with keys that are strings: whatever order, each entry once. -/
import Derived.Test.YtpahhlbgomcnjaaExtra
import Derived.Maps.RangeRun
namespace Go.Sal
open Go.RowKit
set_option linter.unusedVariables false
variable {P : Program} {E : Env} {N : Nat} {L L' : List (Nat × Value)} {H H' R : Heap} {K K' : Act → World → Prop} {Q : Exit → Act → World → Prop}
variable {ops : Array Oper} {rest : List Oper} {o : Oper} {d : Nat} {x y z : Operand}

/-- These entries were met, in this order. -/
structure IterAt {α : Type} (es : Array MapEntry) (m : List (ByteArray × α)) (seen : Array Nat) (vl : List (ByteArray × α)) : Prop where
  ex : ∃ vis : List Nat, vis.Nodup ∧ (∀ i ∈ vis, i < es.size) ∧ seen.toList = vis.map (fun i => (es[i]!).born) ∧ vis.map (fun i => m[i]?) = vl.map some

theorem IterAt.start {α : Type} {es : Array MapEntry} {m : List (ByteArray × α)} : IterAt es m #[] [] := ⟨[], .nil, by simp, rfl, rfl⟩

theorem born_at {es : Array MapEntry} (hb : (es.toList.map (·.born)).Nodup) {i j : Nat} (hi : i < es.size) (hj : j < es.size) (h : (es[i]!).born = (es[j]!).born) : i = j := by
  rw [getElem!_pos es i hi, getElem!_pos es j hj] at h
  have hi' : i < (es.toList.map (·.born)).length := by simpa using hi
  have hj' : j < (es.toList.map (·.born)).length := by simpa using hj
  have hp := List.pairwise_iff_getElem.1 hb
  rcases Nat.lt_trichotomy i j with hij | hij | hij
  · exact absurd (by simpa using h) (hp i j hi' hj' hij)
  · exact hij
  · exact absurd (by simpa using h.symm) (hp j i hj' hi' hij)

theorem IterAt.all {α : Type} {es : Array MapEntry} {c : Nat} {enc : α → Value} {m : List (ByteArray × α)} {seen : Array Nat} {vl : List (ByteArray × α)} (hm : IsMap es c enc m) (h : IterAt es m seen vl) (h0 : (leftOf es seen).size = 0) : vl.Perm m := by
  obtain ⟨vis, hn, hlt, hs, hv⟩ := h
  have hall : ∀ i, i < es.size → i ∈ vis := fun i hi => by
    have hc : seen.contains (es[i]!).born = true := by
      cases hc : seen.contains (es[i]!).born
      · exfalso
        have : es[i]! ∈ leftOf es seen := by
          unfold leftOf
          rw [Array.mem_filter]
          exact ⟨by rw [getElem!_pos es i hi]; exact Array.getElem_mem hi, by rw [hc]; rfl⟩
        have h1 : leftOf es seen = #[] := Array.eq_empty_of_size_eq_zero h0
        rw [h1] at this
        simp at this
      · rfl
    have hmem : (es[i]!).born ∈ seen.toList := by simpa using hc
    rw [hs] at hmem
    obtain ⟨j, hj, he⟩ := List.mem_map.1 hmem
    rw [← born_at hm.born (hlt j hj) hi he]
    exact hj
  have hp : vis.Perm (List.range es.size) := by
    rw [List.perm_ext_iff_of_nodup hn List.nodup_range]
    intro i
    rw [List.mem_range]
    exact ⟨hlt i, hall i⟩
  have h1 := hp.map (fun i => m[i]?)
  rw [hv, hm.size] at h1
  have h2 : (List.range m.length).map (fun i => m[i]?) = m.map some := by
    apply List.ext_getElem?
    intro i
    rw [List.getElem?_map, List.getElem?_map]
    by_cases hi : i < m.length
    · rw [List.getElem?_range hi, List.getElem?_eq_getElem hi]; simp
    · rw [List.getElem?_eq_none (by simpa using hi), List.getElem?_eq_none (by omega)]; rfl
  rw [h2] at h1
  have h3 := h1.filterMap id
  simpa [List.filterMap_map] using h3

theorem IterAt.step {α : Type} {es : Array MapEntry} {c : Nat} {enc : α → Value} {m : List (ByteArray × α)} {seen : Array Nat} {vl : List (ByteArray × α)} (hm : IsMap es c enc m) (h : IterAt es m seen vl) {e : MapEntry} (he : e ∈ (leftOf es seen).toList) :
    ∃ p : ByteArray × α, p ∈ m ∧ e.key = .string p.1 ∧ e.val = enc p.2 ∧ e ∈ es.toList ∧ IterAt es m (seen.push e.born) (vl ++ [p]) := by
  obtain ⟨vis, hn, hlt, hs, hv⟩ := h
  have hf : e ∈ leftOf es seen := by simpa using he
  unfold leftOf at hf
  rw [Array.mem_filter] at hf
  obtain ⟨hem, hnc⟩ := hf
  obtain ⟨i, hi, hie⟩ := Array.mem_iff_getElem.1 hem
  have hkv := congrArg (fun l => l[i]?) hm.kv
  simp only [List.getElem?_map] at hkv
  have hml : i < m.length := by rw [← hm.size]; exact hi
  rw [List.getElem?_eq_getElem (by simpa using hi), List.getElem?_eq_getElem hml] at hkv
  simp only [Option.map_some, Array.getElem_toList, hie, Option.some.injEq, Prod.mk.injEq] at hkv
  refine ⟨m[i], List.getElem_mem hml, hkv.1, hkv.2, by simpa using hem, vis ++ [i], ?_, ?_, ?_, ?_⟩
  · rw [List.nodup_append]
    refine ⟨hn, by simp, fun a ha b hb => ?_⟩
    simp only [List.mem_singleton] at hb
    subst hb
    rintro rfl
    have : (es[a]!).born ∈ seen.toList := by rw [hs]; exact List.mem_map.2 ⟨a, ha, rfl⟩
    rw [getElem!_pos es a hi, hie] at this
    have hc : seen.contains e.born = true := by simpa using this
    rw [hc] at hnc
    cases hnc
  · intro j hj
    rcases List.mem_append.1 hj with hj | hj
    · exact hlt j hj
    · simp only [List.mem_singleton] at hj; subst hj; exact hi
  · rw [Array.toList_push, hs, List.map_append]
    simp [getElem!_pos es i hi, hie]
  · rw [List.map_append, List.map_append, hv]
    simp [List.getElem?_eq_getElem hml]

theorem o_range {T k e : TypeId} {mb : Nat} {es : Array MapEntry} {clock : Nat} (ho : o.op = .range T x) (hd : o.dst = some d) (hN : Nat.blt d N = true) (hx : evL L x = some (.map (some mb))) (hu : P.underlying T = some (.map k e)) (hm : (mb, .map es clock) ∈ H)
    (t : ∀ r, Then E N ((d, .pointer (some ⟨r, 0, none⟩)) :: L) ((r, .mapIter (some mb) clock #[] clock) :: H) K) : Then E N L H (fun a w => o.wp P a w K Q) := fun a w hL hH => by
  have hb := hH.mem _ _ hm
  have hr : (execOp a.eval o).run P w = .ok (.value (.pointer (some ⟨w.heap.size, 0, none⟩))) (w.alloc (.mapIter (some mb) clock #[] clock)) := by
    simp only [execOp, ho, hL.ev hx, Sem.run_bind, run_range_map w T k e mb es clock hu hb, Result.andThen_ok, Sem.run_pure]
  show o.upon P a K Q ((execOp a.eval o).run P w)
  rw [hr, Oper.upon_value, hd]
  exact t _ _ _ (hL.put hN _) (hH.alloc _)

theorem o_next {α : Type} {enc : α → Value} {m vl : List (ByteArray × α)} {r mb : Nat} {es : Array MapEntry} {clock c0 : Nat} {seen : Array Nat} (ho : o.op = .next x false) (hd : o.dst = some d) (hN : Nat.blt d N = true) (hx : evL L x = some (.pointer (some ⟨r, 0, none⟩)))
    (hp : PullC (r, .mapIter (some mb) clock seen c0) H R) (hm : (mb, .map es clock) ∈ R) (hM : IsMap es clock enc m) (hI : IterAt es m seen vl) (hc : clock ≤ c0)
    (t0 : vl.Perm m → Then E N ((d, .tuple #[.bool false]) :: L) H K)
    (t1 : ∀ (p : ByteArray × α) (born : Nat), p ∈ m → IterAt es m (seen.push born) (vl ++ [p]) → (∃ e ∈ es.toList, e.born = born ∧ e.key = .string p.1 ∧ e.val = enc p.2) →
      Then E N ((d, .tuple #[.bool true, .string p.1, enc p.2]) :: L) ((r, .mapIter (some mb) clock (seen.push born) clock) :: R) K) : Then E N L H (fun a w => o.wp P a w K Q) := fun a w hL hH => by
  have hHp : Holds E ((r, .mapIter (some mb) clock seen c0) :: R) w := hH.perm hp.perm
  have hr := hHp.mem _ _ List.mem_cons_self
  have hb := hHp.mem _ _ (List.mem_cons_of_mem _ hm)
  show o.upon P a K Q ((execOp a.eval o).run P w)
  rcases run_next_at (P := P) w o.type r mb clock c0 seen es clock hr hb (fun e he => hM.old e he) hc with ⟨h0, hrun⟩ | ⟨e, he, w1, hw1, hrun⟩
  · have hx2 : (execOp a.eval o).run P w = .ok (.value (.tuple #[.bool false])) w := by
      simp only [execOp, ho, hL.ev hx, Sem.run_bind, hrun, Result.andThen_ok, Sem.run_pure]
    rw [hx2, Oper.upon_value, hd]
    exact t0 (hI.all hM h0) _ _ (hL.put hN _) hH
  · obtain ⟨p, hpm, hk, hv, hem, hI2⟩ := hI.step hM he
    have hx2 : (execOp a.eval o).run P w = .ok (.value (.tuple #[.bool true, e.key, e.val])) (ChangeMaps.setBlock w1 r (.mapIter (some mb) clock (seen.push e.born) clock)) := by
      simp only [execOp, ho, hL.ev hx, Sem.run_bind, hrun, Result.andThen_ok, Sem.run_pure]
    rw [hx2, Oper.upon_value, hd, hk, hv]
    have hH1 : Holds E ((r, .mapIter (some mb) clock seen c0) :: R) w1 := by
      rcases hw1 with rfl | rfl
      · exact hHp
      · exact hHp.drew
    exact t1 p e.born hpm hI2 ⟨e, hem, rfl, hk, hv⟩ _ _ (hL.put hN _) (hH1.setObj)

theorem r_entry {α : Type} {enc : α → Value} {p : ByteArray × α} {r mb : Nat} {es : Array MapEntry} {clock : Nat} {seen : Array Nat} {m : List (ByteArray × α)} {born : Nat} (ho : o.op = .entry x) (hx : evL L x = some (.pointer (some ⟨r, 0, none⟩)))
    (hr : (r, .mapIter (some mb) clock (seen.push born) clock) ∈ H) (hm : (mb, .map es clock) ∈ H) (hM : IsMap es clock enc m) (he : ∃ e ∈ es.toList, e.born = born ∧ e.key = .string p.1 ∧ e.val = enc p.2) :
    Run P E N L H o (.tuple #[.string p.1, enc p.2]) := fun a w hL hH => by
  obtain ⟨e, hem, rfl, hk, hv⟩ := he
  have h1 := run_entry_at (P := P) w r mb clock seen es clock e (hH.mem _ _ hr) (hH.mem _ _ hm) hem hM.born
  simp only [execOp, ho, hL.ev hx, Sem.run_bind, h1, Result.andThen_ok, Sem.run_pure, hk, hv]
end Go.Sal
