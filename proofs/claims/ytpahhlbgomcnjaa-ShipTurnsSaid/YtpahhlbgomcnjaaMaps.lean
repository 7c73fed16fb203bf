/- Rules for maps with keys that are strings: set and delete. -/
import Derived.Test.YtpahhlbgomcnjaaMore
namespace Go.Sal

variable {P : Program} {E : Env} {N : Nat} {L L' : List (Nat × Value)} {H H' : Heap} {K K' : Act → World → Prop} {Q : Exit → Act → World → Prop}
variable {ops : Array Oper} {rest : List Oper} {o : Oper} {d : Nat} {x y z : Operand}

theorem findAt_some {k : ByteArray} : ∀ {m : List (ByteArray × Value)} {j i : Nat} {u : Value}, findAt k m j = some (i, u) → j ≤ i ∧ m[i - j]? = some (k, u)
  | [], j, i, u, h => by cases h
  | p :: m, j, i, u, h => by
    simp only [findAt] at h
    split at h
    · rename_i e
      simp only [Option.some.injEq, Prod.mk.injEq] at h
      obtain ⟨rfl, rfl⟩ := h
      exact ⟨Nat.le_refl _, by simp [← e]⟩
    · obtain ⟨h1, h2⟩ := findAt_some h
      refine ⟨by omega, ?_⟩
      rw [show i - j = (i - (j + 1)) + 1 by omega, List.getElem?_cons_succ]
      exact h2

theorem findAt_none {k : ByteArray} : ∀ {m : List (ByteArray × Value)} {j : Nat}, findAt k m j = none → ∀ p ∈ m, p.1 ≠ k
  | [], j, h, p, hp => by cases hp
  | q :: m, j, h, p, hp => by
    simp only [findAt] at h
    split at h
    · cases h
    · rename_i e
      rcases List.mem_cons.1 hp with rfl | hp
      · exact e
      · exact findAt_none h p hp

theorem mget_none {α : Type} {m : List (ByteArray × α)} {k : ByteArray} : mget m k = none ↔ ∀ p ∈ m, p.1 ≠ k := by
  unfold mget
  simp only [Option.map_eq_none_iff, List.find?_eq_none, decide_eq_true_eq]

theorem nodup_key {α : Type} {m : List (ByteArray × α)} (hn : (m.map (·.1)).Nodup) {i j : Nat} {k : ByteArray} {u v : α} (hi : m[i]? = some (k, u)) (hj : m[j]? = some (k, v)) : i = j := by
  have hi' : (m.map (·.1))[i]? = some k := by rw [List.getElem?_map, hi]; rfl
  have hj' : (m.map (·.1))[j]? = some k := by rw [List.getElem?_map, hj]; rfl
  exact (List.getElem?_inj (List.getElem?_eq_some_iff.1 hi').1 hn).1 (hi'.trans hj'.symm)

theorem mget_of_at {α : Type} {m : List (ByteArray × α)} (hn : (m.map (·.1)).Nodup) {i : Nat} {k : ByteArray} {u : α} (hi : m[i]? = some (k, u)) : mget m k = some u := by
  unfold mget
  cases hf : m.find? (fun p => decide (p.1 = k)) with
  | none =>
    have := List.find?_eq_none.1 hf (k, u) (List.mem_of_getElem? hi)
    simp at this
  | some p =>
    have hp := List.find?_some hf
    simp only [decide_eq_true_eq] at hp
    obtain ⟨j, hj⟩ := List.getElem?_of_mem (List.mem_of_find?_eq_some hf)
    obtain ⟨k', v⟩ := p
    simp only at hp
    subst hp
    have := nodup_key hn hi hj
    subst this
    rw [hi] at hj
    injection hj with hj
    injection hj with _ hj
    simp [hj]

theorem mset_at {α : Type} {m : List (ByteArray × α)} (hn : (m.map (·.1)).Nodup) {i : Nat} {k : ByteArray} {u v : α} (hi : m[i]? = some (k, u)) : mset m k v = m.set i (k, v) := by
  unfold mset
  rw [mget_of_at hn hi]
  simp only [Option.isSome_some, if_true]
  apply List.ext_getElem?
  intro j
  rw [List.getElem?_map, List.getElem?_set]
  by_cases e : i = j
  · subst e
    simp only [if_true, hi, Option.map_some]
    rw [if_pos (List.getElem?_eq_some_iff.1 hi).1]
  · rw [if_neg e]
    cases hj : m[j]? with
    | none => rfl
    | some p =>
      obtain ⟨k', w⟩ := p
      simp only [Option.map_some]
      by_cases e' : k' = k
      · subst e'; exact absurd (nodup_key hn hi hj) e
      · rw [if_neg e']

theorem mset_new {α : Type} {m : List (ByteArray × α)} {k : ByteArray} {v : α} (h : mget m k = none) : mset m k v = m ++ [(k, v)] := by
  unfold mset; rw [h]; simp

theorem keys_mset {α : Type} {m : List (ByteArray × α)} (hn : (m.map (·.1)).Nodup) (k : ByteArray) (v : α) : ((mset m k v).map (·.1)).Nodup := by
  cases h : mget m k with
  | none =>
    rw [mset_new h, List.map_append, List.nodup_append]
    refine ⟨hn, by simp, fun a ha b hb e => ?_⟩
    simp only [List.map_cons, List.map_nil, List.mem_singleton] at hb
    obtain ⟨p, hp, rfl⟩ := List.mem_map.1 ha
    exact mget_none.1 h p hp (e.trans hb)
  | some u =>
    have : (mset m k v).map (·.1) = m.map (·.1) := by
      unfold mset
      rw [h]
      simp only [Option.isSome_some, if_true, List.map_map]
      apply List.map_congr_left
      intro p _
      simp only [Function.comp]
      split
      · rename_i e; exact e.symm
      · rfl
    rw [this]; exact hn

theorem mdel_at {α : Type} {m : List (ByteArray × α)} (hn : (m.map (·.1)).Nodup) {i : Nat} {k : ByteArray} {u : α} (hi : m[i]? = some (k, u)) : mdel m k = m.eraseIdx i := by
  induction m generalizing i with
  | nil => simp at hi
  | cons p m ih =>
    simp only [List.map_cons, List.nodup_cons] at hn
    unfold mdel at ih ⊢
    cases i with
    | zero =>
      simp only [List.getElem?_cons_zero, Option.some.injEq] at hi
      subst hi
      simp only [List.filter_cons, ne_eq, not_true_eq_false, decide_false, Bool.false_eq_true, if_false, List.eraseIdx_zero, List.tail_cons]
      rw [List.filter_eq_self]
      intro q hq
      simp only [decide_not, Bool.not_eq_true', decide_eq_false_iff_not]
      intro e
      exact hn.1 (List.mem_map.2 ⟨q, hq, e⟩)
    | succ i =>
      simp only [List.getElem?_cons_succ] at hi
      have hne : p.1 ≠ k := fun e => hn.1 (List.mem_map.2 ⟨(k, u), List.mem_of_getElem? hi, e.symm⟩)
      simp only [List.filter_cons, List.eraseIdx_cons_succ]
      rw [if_pos (by simpa using hne), ih hn.2 hi]

theorem mdel_none {α : Type} {m : List (ByteArray × α)} {k : ByteArray} (h : mget m k = none) : mdel m k = m := by
  unfold mdel
  rw [List.filter_eq_self]
  intro p hp
  simpa using mget_none.1 h p hp

theorem findAt_iff {α : Type} {enc : α → Value} {m : List (ByteArray × α)} {k : ByteArray} : (findAt k (m.map fun p => (p.1, enc p.2)) 0 = none ↔ mget m k = none) := by
  have := findAt_get (k := k) (m := m.map fun p => (p.1, enc p.2)) (i := 0)
  rw [mget_map] at this
  constructor
  · intro h; rw [h] at this; simpa using this.symm
  · intro h; rw [h] at this; simpa using this

theorem map_eraseIdx' {α β : Type} (f : α → β) : ∀ (l : List α) (i : Nat), (l.eraseIdx i).map f = (l.map f).eraseIdx i
  | [], i => by simp
  | a :: l, 0 => by simp
  | a :: l, i + 1 => by simp [map_eraseIdx' f l i]

theorem Holds.setObj {w : World} {b : Nat} {o o' : Obj} (h : Holds E ((b, o) :: H) w) : Holds E ((b, o') :: H) { w with heap := w.heap.setIfInBounds b o' } := by
  have hb : b < w.heap.size := h.lt List.mem_cons_self
  refine h.setBlock rfl rfl ?_ (fun k hk _ => ?_)
  · simp [hb]
  · simp [Array.getElem?_setIfInBounds_ne (Ne.symm hk)]

theorem run_setObj_map {w : World} {b : Nat} {es : Array MapEntry} {c : Nat} {o' : Obj} (hb : w.heap[b]? = some (.map es c)) : (setObj b o').run P w = .ok () { w with heap := w.heap.setIfInBounds b o' } := by
  simp only [setObj, Sem.run, hb]

theorem IsMap.set {α : Type} {es : Array MapEntry} {c : Nat} {enc : α → Value} {m : List (ByteArray × α)} (h : IsMap es c enc m) {i : Nat} {k : ByteArray} {u v : α} (hi : m[i]? = some (k, u)) :
    IsMap (es.modify i fun e => { e with key := .string k, val := enc v }) c enc (mset m k v) := by
  rw [mset_at h.nd hi]
  have hlen : es.toList.length = m.length := by have := congrArg List.length h.kv; simpa using this
  refine ⟨?_, by rw [← mset_at h.nd hi]; exact keys_mset h.nd k v, ?_, ?_⟩
  · apply List.ext_getElem?
    intro j
    have hj := congrArg (·[j]?) h.kv
    simp only [List.getElem?_map] at hj
    rw [List.getElem?_map, List.getElem?_map, Array.toList_modify, List.getElem?_modify, List.getElem?_set]
    by_cases e : i = j
    · subst e
      have hlt := (List.getElem?_eq_some_iff.1 hi).1
      rw [hi] at hj
      simp only [if_true, if_pos hlt]
      cases he : es.toList[i]? with
      | none => rw [he] at hj; simp at hj
      | some e => simp
    · rw [if_neg e]
      cases he : es.toList[j]? <;> simp [he, if_neg e] at hj ⊢ <;> simpa using hj
  · have : (es.modify i fun e => { e with key := Value.string k, val := enc v }).toList.map (·.born) = es.toList.map (·.born) := by
      apply List.ext_getElem?
      intro j
      rw [List.getElem?_map, List.getElem?_map, Array.toList_modify, List.getElem?_modify]
      cases he : es.toList[j]? with
      | none => rfl
      | some e => simp only [Option.map_some]; by_cases e' : i = j <;> simp [e']
    rw [this]; exact h.born
  · intro e he
    obtain ⟨j, hj⟩ := List.getElem?_of_mem he
    rw [Array.toList_modify, List.getElem?_modify] at hj
    cases he' : es.toList[j]? with
    | none => rw [he'] at hj; cases hj
    | some e0 =>
      rw [he'] at hj
      have h0 := h.old e0 (List.mem_of_getElem? he')
      simp at hj
      subst hj
      by_cases e' : i = j <;> simp [e', h0]

theorem IsMap.add {α : Type} {es : Array MapEntry} {c : Nat} {enc : α → Value} {m : List (ByteArray × α)} (h : IsMap es c enc m) {k : ByteArray} {v : α} (hk : mget m k = none) :
    IsMap (es.push { key := .string k, val := enc v, born := c }) (c + 1) enc (mset m k v) := by
  refine ⟨?_, keys_mset h.nd k v, ?_, ?_⟩
  · rw [mset_new hk]; simp [h.kv]
  · simp only [Array.toList_push, List.map_append, List.map_cons, List.map_nil, List.nodup_append]
    refine ⟨h.born, by simp, fun a ha b hb e => ?_⟩
    simp only [List.mem_singleton] at hb
    obtain ⟨q, hq, rfl⟩ := List.mem_map.1 ha
    have := h.old q hq
    omega
  · intro e he
    simp only [Array.toList_push, List.mem_append, List.mem_singleton] at he
    rcases he with he | rfl
    · have := h.old e he; omega
    · simp

theorem IsMap.del {α : Type} {es : Array MapEntry} {c : Nat} {enc : α → Value} {m : List (ByteArray × α)} (h : IsMap es c enc m) {i : Nat} {k : ByteArray} {u : α} (hi : m[i]? = some (k, u)) :
    IsMap (es.eraseIdxIfInBounds i) c enc (mdel m k) := by
  rw [mdel_at h.nd hi]
  have hlen : es.toList.length = m.length := by have := congrArg List.length h.kv; simpa using this
  have hlt : i < es.size := by have := (List.getElem?_eq_some_iff.1 hi).1; simp at hlen; omega
  have e : (es.eraseIdxIfInBounds i).toList = es.toList.eraseIdx i := by simp [Array.eraseIdxIfInBounds, hlt]
  refine ⟨?_, ?_, ?_, ?_⟩
  · rw [e, map_eraseIdx', h.kv, map_eraseIdx']
  · rw [map_eraseIdx']; exact h.nd.sublist (List.eraseIdx_sublist _ _)
  · rw [e, map_eraseIdx']; exact h.born.sublist (List.eraseIdx_sublist _ _)
  · intro q hq
    rw [e] at hq
    exact h.old q (List.mem_of_mem_eraseIdx hq)

/-- m[k] = v -/
theorem o_mapSet {α : Type} {T kt et : TypeId} {b : Nat} {es : Array MapEntry} {c : Nat} {enc : α → Value} {m : List (ByteArray × α)} {k : ByteArray} {v : α} {R : Heap}
    (ho : o.op = .mapUpdate T x y z) (hd : o.dst = none) (hx : evL L x = some (.map (some b))) (hy : evL L y = some (.string k)) (hz : evL L z = some (enc v))
    (hu : P.underlying T = some (.map kt et)) (hk : P.underlying kt = some .string) (hp : PullC (b, .map es c) H R) (hm : IsMap es c enc m)
    (t : ∀ es' c', IsMap es' c' enc (mset m k v) → Then E N L ((b, .map es' c') :: R) K) : Then E N L H (fun a w => o.wp P a w K Q) := fun a w hL hH => by
  have hH1 : Holds E ((b, .map es c) :: R) w := hH.perm hp.perm
  have h1 := run_findKey_str (P := P) hk hm k w
  have h3 := run_getMap (P := P) hH1 List.mem_cons_self
  have hset : ∀ o', (setObj b o').run P w = .ok () { w with heap := w.heap.setIfInBounds b o' } := fun o' => run_setObj_map (hH1.mem _ _ List.mem_cons_self)
  show o.upon P a K Q ((execOp a.eval o).run P w)
  simp only [execOp, ho, hL.ev hx, hL.ev hy, hL.ev hz, Instr.mapUpdate, Sem.run_bind, underlying, run_program, Result.andThen_ok, hu, h3, run_checkKey_str hk, h1, Sem.run_pure]
  cases hf : findAt k (m.map fun p => (p.1, enc p.2)) 0 with
  | none =>
    have hg : mget m k = none := findAt_iff.1 hf
    simp only [hset, Result.andThen_ok, Oper.upon_skip]
    rw [hd]
    exact t _ _ (hm.add hg) _ _ hL hH1.setObj
  | some q =>
    obtain ⟨i, u⟩ := q
    obtain ⟨_, hi⟩ := findAt_some hf
    rw [Nat.sub_zero, List.getElem?_map] at hi
    cases hmi : m[i]? with
    | none => rw [hmi] at hi; cases hi
    | some p =>
      obtain ⟨k', u'⟩ := p
      rw [hmi] at hi
      simp only [Option.map_some, Option.some.injEq, Prod.mk.injEq] at hi
      obtain ⟨rfl, rfl⟩ := hi
      have hkey : ((es[i]?).map (·.key)).getD (.string k') = .string k' := by
        have := congrArg (·[i]?) hm.kv
        simp only [List.getElem?_map, hmi, Option.map_some, Array.getElem?_toList] at this
        cases he : es[i]? with
        | none => rfl
        | some e => rw [he] at this; simp at this; simp [this.1]
      have hst : (Instr.keyThatStays (.string k') (.string k')).run P w = .ok (.string k') w := by
        have : Instr.sameBits 10000 (.string k') (.string k') = true := by simp [Instr.sameBits, beq_bytes]
        simp [Instr.keyThatStays, this]
      simp only [hkey, hst, Result.andThen_ok, Sem.run_bind, hset, Oper.upon_skip]
      rw [hd]
      exact t _ _ (hm.set (v := v) hmi) _ _ hL hH1.setObj

/-- delete(m, k) -/
theorem o_mapDel {α : Type} {T T2 kt et : TypeId} {b : Nat} {es : Array MapEntry} {c : Nat} {enc : α → Value} {m : List (ByteArray × α)} {k : ByteArray} {R : Heap}
    (ho : o.op = .call { callee := .builtin .delete, args := #[x, y], argTypes := #[T, T2] }) (hd : o.dst = none) (hx : evL L x = some (.map (some b))) (hy : evL L y = some (.string k))
    (hu : P.underlying T = some (.map kt et)) (hk : P.underlying kt = some .string) (hp : PullC (b, .map es c) H R) (hm : IsMap es c enc m)
    (t : ∀ es' c', IsMap es' c' enc (mdel m k) → Then E N L ((b, .map es' c') :: R) K) : Then E N L H (fun a w => o.wp P a w K Q) := fun a w hL hH => by
  have hH1 : Holds E ((b, .map es c) :: R) w := hH.perm hp.perm
  have h1 := run_findKey_str (P := P) hk hm k w
  have h3 := run_getMap (P := P) hH1 List.mem_cons_self
  have hset : ∀ o', (setObj b o').run P w = .ok () { w with heap := w.heap.setIfInBounds b o' } := fun o' => run_setObj_map (hH1.mem _ _ List.mem_cons_self)
  show o.upon P a K Q ((execOp a.eval o).run P w)
  simp only [execOp, ho, resolve, invoke, builtin, Sem.run_bind, Sem.run_pure, Result.andThen_ok, List.map_toArray, List.map_cons, List.map_nil, hL.ev hx, hL.ev hy]
  simp only [Builtin.delete_, List.getElem?_toArray, List.getElem?_cons_zero, List.getElem?_cons_succ, Sem.run_bind, underlying, run_program, Result.andThen_ok, hu, h3, run_checkKey_str hk, h1, Sem.run_pure]
  cases hf : findAt k (m.map fun p => (p.1, enc p.2)) 0 with
  | none =>
    have hg : mget m k = none := findAt_iff.1 hf
    simp only [Sem.run_bind, hset, Sem.run_pure, Result.andThen_ok, Oper.upon_value]
    rw [hd]
    exact t _ _ (by rw [mdel_none hg]; exact hm) _ _ hL hH1.setObj
  | some q =>
    obtain ⟨i, u⟩ := q
    obtain ⟨_, hi⟩ := findAt_some hf
    rw [Nat.sub_zero, List.getElem?_map] at hi
    cases hmi : m[i]? with
    | none => rw [hmi] at hi; cases hi
    | some p =>
      obtain ⟨k', u'⟩ := p
      rw [hmi] at hi
      simp only [Option.map_some, Option.some.injEq, Prod.mk.injEq] at hi
      obtain ⟨rfl, rfl⟩ := hi
      simp only [Sem.run_bind, hset, Sem.run_pure, Result.andThen_ok, Oper.upon_value]
      rw [hd]
      exact t _ _ (hm.del hmi) _ _ hL hH1.setObj

end Go.Sal
