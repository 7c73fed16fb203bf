/- A map whose keys are arrays or structs, as the row of its keys in the order of their coming: all values are one. -/
import Derived.Test.YtpahhlbgomcnjaaRange
import Derived.Test.YtpahhlbgomcnjaaEqual
import Derived.DeepKeys3
import Derived.WideKeyRuns
namespace Go.Sal
open Go.RowKit
set_option linter.unusedVariables false
variable {P : Program} {E : Env} {N : Nat} {L L' : List (Nat × Value)} {H H' R : Heap} {K K' : Act → World → Prop} {Q : Exit → Act → World → Prop}
variable {ops : Array Oper} {rest : List Oper} {o : Oper} {d : Nat} {x y z : Operand}

structure IsSet {α : Type} (es : Array MapEntry) (clock : Nat) (kenc : α → Value) (vv : Value) (l : List α) : Prop where
  kv : es.toList.map (fun e => (e.key, e.val)) = l.map (fun a => (kenc a, vv))
  nd : l.Nodup
  born : (es.toList.map (·.born)).Nodup
  old : ∀ e ∈ es.toList, e.born < clock

theorem IsSet.empty {α : Type} (kenc : α → Value) (vv : Value) : IsSet #[] 0 kenc vv ([] : List α) := ⟨rfl, .nil, by simp, by simp⟩

theorem IsSet.size {α : Type} {es : Array MapEntry} {c : Nat} {kenc : α → Value} {vv : Value} {l : List α} (h : IsSet es c kenc vv l) : es.size = l.length := by
  have := congrArg List.length h.kv
  simpa using this

theorem IsSet.at {α : Type} {es : Array MapEntry} {c : Nat} {kenc : α → Value} {vv : Value} {l : List α} (h : IsSet es c kenc vv l) {i : Nat} {a : α} (hi : l[i]? = some a) : ∃ e, es[i]? = some e ∧ e.key = kenc a ∧ e.val = vv := by
  have hkv := congrArg (fun q => q[i]?) h.kv
  simp only [List.getElem?_map, hi, Option.map_some] at hkv
  cases he : es.toList[i]? with
  | none => rw [he] at hkv; cases hkv
  | some e =>
    rw [he] at hkv
    simp only [Option.map_some, Option.some.injEq, Prod.mk.injEq] at hkv
    exact ⟨e, by simpa using he, hkv.1, hkv.2⟩

theorem run_findAsking_set {α : Type} [DecidableEq α] {kt : TypeId} {kenc : α → Value} {vv : Value} (heq : ∀ (a b : α) (w : World), (Op.equal kt (kenc a) (kenc b)).run P w = .ok (decide (a = b)) w) (a : α) (w : World) :
    ∀ (es : List MapEntry) (l : List α) (i : Nat), es.map (fun e => (e.key, e.val)) = l.map (fun a => (kenc a, vv)) →
      (∃ j, l[j]? = some a ∧ (Instr.findAsking kt (kenc a) es i).run P w = .ok (some (i + j, vv)) w) ∨ (a ∉ l ∧ (Instr.findAsking kt (kenc a) es i).run P w = .ok none w)
  | [], l, i, h => by
    have : l = [] := by cases l <;> simp_all
    subst this
    exact .inr ⟨by simp, by simp [Instr.findAsking]⟩
  | e :: es, [], i, h => by simp at h
  | e :: es, b :: l, i, h => by
    simp only [List.map_cons, List.cons.injEq, Prod.mk.injEq] at h
    obtain ⟨⟨hk, hv⟩, h⟩ := h
    simp only [Instr.findAsking, hk, Sem.run_bind, heq a b w, Result.andThen_ok]
    by_cases e1 : a = b
    · subst e1
      exact .inl ⟨0, by simp, by simp [hv]⟩
    · rcases run_findAsking_set heq a w es l (i + 1) h with ⟨j, hj, hr⟩ | ⟨hn, hr⟩
      · exact .inl ⟨j + 1, by simpa using hj, by simp [e1, hr]; omega⟩
      · exact .inr ⟨by simp [e1, hn], by simp [e1, hr]⟩
theorem run_findKey_set {α : Type} [DecidableEq α] {kt : TypeId} {kenc : α → Value} {vv : Value} (hw : (match P.underlying kt with | some (.array _ _) | some (.struct _) => true | _ => false) = true)
    (heq : ∀ (a b : α) (w : World), (Op.equal kt (kenc a) (kenc b)).run P w = .ok (decide (a = b)) w) {es : Array MapEntry} {c : Nat} {l : List α} (h : IsSet es c kenc vv l) (a : α) (w : World) :
    (∃ j, l[j]? = some a ∧ (Instr.findKey kt (kenc a) es.toList).run P w = .ok (some (j, vv)) w) ∨ (a ∉ l ∧ (Instr.findKey kt (kenc a) es.toList).run P w = .ok none w) := by
  have h1 := run_findAsking_set (P := P) (vv := vv) heq a w es.toList l 0 h.kv
  rw [run_findKey_eq w hw]
  simpa using h1

theorem IsSet.add {α : Type} {es : Array MapEntry} {c : Nat} {kenc : α → Value} {vv : Value} {l : List α} (h : IsSet es c kenc vv l) {a : α} (ha : a ∉ l) : IsSet (es.push { key := kenc a, val := vv, born := c }) (c + 1) kenc vv (l ++ [a]) := by
  refine ⟨by simp [h.kv], ?_, ?_, ?_⟩
  · rw [List.nodup_append]
    exact ⟨h.nd, by simp, fun x hx y hy => by simp at hy; subst hy; rintro rfl; exact ha hx⟩
  · rw [Array.toList_push, List.map_append, List.nodup_append]
    refine ⟨h.born, by simp, fun x hx y hy => ?_⟩
    obtain ⟨e, he, rfl⟩ := List.mem_map.1 hx
    simp at hy
    subst hy
    have := h.old e he
    omega
  · intro e he
    rw [Array.toList_push] at he
    rcases List.mem_append.1 he with he | he
    · have := h.old e he; omega
    · simp at he; subst he; simp

/-- m[k] = v, where every value is v. -/
theorem o_setAdd {α : Type} [DecidableEq α] {T kt et : TypeId} {b : Nat} {es : Array MapEntry} {c : Nat} {kenc : α → Value} {vv : Value} {l : List α} {a0 : α}
    (ho : o.op = .mapUpdate T x y z) (hd : o.dst = none) (hx : evL L x = some (.map (some b))) (hy : evL L y = some (kenc a0)) (hz : evL L z = some vv)
    (hu : P.underlying T = some (.map kt et)) (hw : (match P.underlying kt with | some (.array _ _) | some (.struct _) => true | _ => false) = true)
    (heq : ∀ (a b : α) (w : World), (Op.equal kt (kenc a) (kenc b)).run P w = .ok (decide (a = b)) w) (hck : ∀ (w : World), (Instr.checkKey false 10000 kt (kenc a0)).run P w = .ok () w) (hsb : Instr.sameBits 10000 (kenc a0) (kenc a0) = true)
    (hp : PullC (b, .map es c) H R) (hm : IsSet es c kenc vv l)
    (t : ∀ es' c', IsSet es' c' kenc vv (if a0 ∈ l then l else l ++ [a0]) → Then E N L ((b, .map es' c') :: R) K) : Then E N L H (fun a w => o.wp P a w K Q) := fun a w hL hH => by
  have hH1 : Holds E ((b, .map es c) :: R) w := hH.perm hp.perm
  have h3 := run_getMap (P := P) hH1 List.mem_cons_self
  have hset : ∀ o', (setObj b o').run P w = .ok () { w with heap := w.heap.setIfInBounds b o' } := fun o' => run_setObj_map (hH1.mem _ _ List.mem_cons_self)
  show o.upon P a K Q ((execOp a.eval o).run P w)
  rcases run_findKey_set hw heq hm a0 w with ⟨j, hj, hr⟩ | ⟨hn, hr⟩
  · obtain ⟨e, he, hek, hev⟩ := hm.at hj
    have hkt : (Instr.keyThatStays (((es[j]?).map (·.key)).getD (kenc a0)) (kenc a0)).run P w = .ok (kenc a0) w := by
      simp [Instr.keyThatStays, he, hek, hsb]
    have hmod : es.modify j (fun e => { e with key := kenc a0, val := vv }) = es := by
      apply Array.ext'
      apply List.ext_getElem?
      intro i
      simp only [Array.getElem?_toList, Array.getElem?_modify]
      by_cases hij : j = i
      · subst hij
        rw [if_pos rfl, he, Option.map_some, ← hek, ← hev]
      · rw [if_neg hij]
    simp only [execOp, ho, hL.ev hx, hL.ev hy, hL.ev hz, Instr.mapUpdate, Sem.run_bind, underlying, run_program, Result.andThen_ok, hu, h3, hck w, hr, Sem.run_pure, hkt, hmod, hset, Oper.upon_skip]
    rw [hd]
    exact t _ _ (by rw [if_pos (List.mem_of_getElem? hj)]; exact hm) _ _ hL hH1.setObj
  · simp only [execOp, ho, hL.ev hx, hL.ev hy, hL.ev hz, Instr.mapUpdate, Sem.run_bind, underlying, run_program, Result.andThen_ok, hu, h3, hck w, hr, Sem.run_pure, hset, Oper.upon_skip]
    rw [hd]
    exact t _ _ (by rw [if_neg hn]; exact hm.add hn) _ _ hL hH1.setObj

/-- A map's entries, as a row of keys and values of whatever kind. -/
structure Ents {α : Type} (es : Array MapEntry) (clock : Nat) (kf vf : α → Value) (m : List α) : Prop where
  kv : es.toList.map (fun e => (e.key, e.val)) = m.map (fun a => (kf a, vf a))
  born : (es.toList.map (·.born)).Nodup
  old : ∀ e ∈ es.toList, e.born < clock
theorem Ents.size {α : Type} {es : Array MapEntry} {c : Nat} {kf vf : α → Value} {m : List α} (h : Ents es c kf vf m) : es.size = m.length := by
  have := congrArg List.length h.kv
  simpa using this
theorem IsSet.ents {α : Type} {es : Array MapEntry} {c : Nat} {kenc : α → Value} {vv : Value} {l : List α} (h : IsSet es c kenc vv l) : Ents es c kenc (fun _ => vv) l := ⟨h.kv, h.born, h.old⟩

/-- These entries were met, in this order. -/
structure IterG {α : Type} (es : Array MapEntry) (m : List α) (seen : Array Nat) (vl : List α) : Prop where
  ex : ∃ vis : List Nat, vis.Nodup ∧ (∀ i ∈ vis, i < es.size) ∧ seen.toList = vis.map (fun i => (es[i]!).born) ∧ vis.map (fun i => m[i]?) = vl.map some

theorem IterG.start {α : Type} {es : Array MapEntry} {m : List α} : IterG es m #[] [] := ⟨[], .nil, by simp, rfl, rfl⟩

theorem born_atG {es : Array MapEntry} (hb : (es.toList.map (·.born)).Nodup) {i j : Nat} (hi : i < es.size) (hj : j < es.size) (h : (es[i]!).born = (es[j]!).born) : i = j := by
  rw [getElem!_pos es i hi, getElem!_pos es j hj] at h
  have hi' : i < (es.toList.map (·.born)).length := by simpa using hi
  have hj' : j < (es.toList.map (·.born)).length := by simpa using hj
  have hp := List.pairwise_iff_getElem.1 hb
  rcases Nat.lt_trichotomy i j with hij | hij | hij
  · exact absurd (by simpa using h) (hp i j hi' hj' hij)
  · exact hij
  · exact absurd (by simpa using h.symm) (hp j i hj' hi' hij)

theorem IterG.all {α : Type} {es : Array MapEntry} {c : Nat} {kf vf : α → Value} {m : List α} {seen : Array Nat} {vl : List α} (hm : Ents es c kf vf m) (h : IterG es m seen vl) (h0 : (leftOf es seen).size = 0) : vl.Perm m := by
  obtain ⟨vis, hn, hlt, hs, hv⟩ := h
  have hall : ∀ i, i < es.size → i ∈ vis := fun i hi => by
    have hc : seen.contains (es[i]!).born = true := by
      cases hc : seen.contains (es[i]!).born
      · exfalso
        have : es[i]! ∈ leftOf es seen := by
          unfold leftOf
          rw [Array.mem_filter]
          exact ⟨by rw [getElem!_pos es i hi]; exact Array.getElem_mem hi, by rw [hc]; rfl⟩
        have h1 : leftOf es seen = #[] := Array.eq_empty_of_size_eq_zero h0
        rw [h1] at this
        simp at this
      · rfl
    have hmem : (es[i]!).born ∈ seen.toList := by simpa using hc
    rw [hs] at hmem
    obtain ⟨j, hj, he⟩ := List.mem_map.1 hmem
    rw [← born_atG hm.born (hlt j hj) hi he]
    exact hj
  have hp : vis.Perm (List.range es.size) := by
    rw [List.perm_ext_iff_of_nodup hn List.nodup_range]
    intro i
    rw [List.mem_range]
    exact ⟨hlt i, hall i⟩
  have h1 := hp.map (fun i => m[i]?)
  rw [hv, hm.size] at h1
  have h2 : (List.range m.length).map (fun i => m[i]?) = m.map some := by
    apply List.ext_getElem?
    intro i
    rw [List.getElem?_map, List.getElem?_map]
    by_cases hi : i < m.length
    · rw [List.getElem?_range hi, List.getElem?_eq_getElem hi]; simp
    · rw [List.getElem?_eq_none (by simpa using hi), List.getElem?_eq_none (by omega)]; rfl
  rw [h2] at h1
  have h3 := h1.filterMap id
  simpa [List.filterMap_map] using h3

theorem IterG.step {α : Type} {es : Array MapEntry} {c : Nat} {kf vf : α → Value} {m : List α} {seen : Array Nat} {vl : List α} (hm : Ents es c kf vf m) (h : IterG es m seen vl) {e : MapEntry} (he : e ∈ (leftOf es seen).toList) :
    ∃ p : α, p ∈ m ∧ e.key = kf p ∧ e.val = vf p ∧ e ∈ es.toList ∧ IterG es m (seen.push e.born) (vl ++ [p]) := by
  obtain ⟨vis, hn, hlt, hs, hv⟩ := h
  have hf : e ∈ leftOf es seen := by simpa using he
  unfold leftOf at hf
  rw [Array.mem_filter] at hf
  obtain ⟨hem, hnc⟩ := hf
  obtain ⟨i, hi, hie⟩ := Array.mem_iff_getElem.1 hem
  have hkv := congrArg (fun l => l[i]?) hm.kv
  simp only [List.getElem?_map] at hkv
  have hml : i < m.length := by rw [← hm.size]; exact hi
  rw [List.getElem?_eq_getElem (by simpa using hi), List.getElem?_eq_getElem hml] at hkv
  simp only [Option.map_some, Array.getElem_toList, hie, Option.some.injEq, Prod.mk.injEq] at hkv
  refine ⟨m[i], List.getElem_mem hml, hkv.1, hkv.2, by simpa using hem, vis ++ [i], ?_, ?_, ?_, ?_⟩
  · rw [List.nodup_append]
    refine ⟨hn, by simp, fun a ha b hb => ?_⟩
    simp only [List.mem_singleton] at hb
    subst hb
    rintro rfl
    have : (es[a]!).born ∈ seen.toList := by rw [hs]; exact List.mem_map.2 ⟨a, ha, rfl⟩
    rw [getElem!_pos es a hi, hie] at this
    have hc : seen.contains e.born = true := by simpa using this
    rw [hc] at hnc
    cases hnc
  · intro j hj
    rcases List.mem_append.1 hj with hj | hj
    · exact hlt j hj
    · simp only [List.mem_singleton] at hj; subst hj; exact hi
  · rw [Array.toList_push, hs, List.map_append]
    simp [getElem!_pos es i hi, hie]
  · rw [List.map_append, List.map_append, hv]
    simp [List.getElem?_eq_getElem hml]

theorem o_nextG {α : Type} {kf vf : α → Value} {m vl : List α} {r mb : Nat} {es : Array MapEntry} {clock c0 : Nat} {seen : Array Nat} (ho : o.op = .next x false) (hd : o.dst = some d) (hN : Nat.blt d N = true) (hx : evL L x = some (.pointer (some ⟨r, 0, none⟩)))
    (hp : PullC (r, .mapIter (some mb) clock seen c0) H R) (hm : (mb, .map es clock) ∈ R) (hM : Ents es clock kf vf m) (hI : IterG es m seen vl) (hc : clock ≤ c0)
    (t0 : vl.Perm m → Then E N ((d, .tuple #[.bool false]) :: L) H K)
    (t1 : ∀ (p : α) (born : Nat), p ∈ m → IterG es m (seen.push born) (vl ++ [p]) → (∃ e ∈ es.toList, e.born = born ∧ e.key = kf p ∧ e.val = vf p) →
      Then E N ((d, .tuple #[.bool true, kf p, vf p]) :: L) ((r, .mapIter (some mb) clock (seen.push born) clock) :: R) K) : Then E N L H (fun a w => o.wp P a w K Q) := fun a w hL hH => by
  have hHp : Holds E ((r, .mapIter (some mb) clock seen c0) :: R) w := hH.perm hp.perm
  have hr := hHp.mem _ _ List.mem_cons_self
  have hb := hHp.mem _ _ (List.mem_cons_of_mem _ hm)
  show o.upon P a K Q ((execOp a.eval o).run P w)
  rcases run_next_at (P := P) w o.type r mb clock c0 seen es clock hr hb (fun e he => hM.old e he) hc with ⟨h0, hrun⟩ | ⟨e, he, w1, hw1, hrun⟩
  · have hx2 : (execOp a.eval o).run P w = .ok (.value (.tuple #[.bool false])) w := by
      simp only [execOp, ho, hL.ev hx, Sem.run_bind, hrun, Result.andThen_ok, Sem.run_pure]
    rw [hx2, Oper.upon_value, hd]
    exact t0 (hI.all hM h0) _ _ (hL.put hN _) hH
  · obtain ⟨p, hpm, hk, hv, hem, hI2⟩ := hI.step hM he
    have hx2 : (execOp a.eval o).run P w = .ok (.value (.tuple #[.bool true, e.key, e.val])) (ChangeMaps.setBlock w1 r (.mapIter (some mb) clock (seen.push e.born) clock)) := by
      simp only [execOp, ho, hL.ev hx, Sem.run_bind, hrun, Result.andThen_ok, Sem.run_pure]
    rw [hx2, Oper.upon_value, hd, hk, hv]
    have hH1 : Holds E ((r, .mapIter (some mb) clock seen c0) :: R) w1 := by
      rcases hw1 with rfl | rfl
      · exact hHp
      · exact hHp.drew
    exact t1 p e.born hpm hI2 ⟨e, hem, rfl, hk, hv⟩ _ _ (hL.put hN _) (hH1.setObj)

theorem r_entryG {α : Type} {kf vf : α → Value} {p : α} {r mb : Nat} {es : Array MapEntry} {clock : Nat} {seen : Array Nat} {m : List α} {born : Nat} (ho : o.op = .entry x) (hx : evL L x = some (.pointer (some ⟨r, 0, none⟩)))
    (hr : (r, .mapIter (some mb) clock (seen.push born) clock) ∈ H) (hm : (mb, .map es clock) ∈ H) (hM : Ents es clock kf vf m) (he : ∃ e ∈ es.toList, e.born = born ∧ e.key = kf p ∧ e.val = vf p) :
    Run P E N L H o (.tuple #[kf p, vf p]) := fun a w hL hH => by
  obtain ⟨e, hem, rfl, hk, hv⟩ := he
  have h1 := run_entry_at (P := P) w r mb clock seen es clock e (hH.mem _ _ hr) (hH.mem _ _ hm) hem hM.born
  simp only [execOp, ho, hL.ev hx, Sem.run_bind, h1, Result.andThen_ok, Sem.run_pure, hk, hv]

end Go.Sal
