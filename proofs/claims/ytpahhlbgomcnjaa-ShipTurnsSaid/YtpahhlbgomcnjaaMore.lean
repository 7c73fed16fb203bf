/- More rules: nil, results in cells, maps with keys that are strings, empty slices. -/
import Derived.Test.YtpahhlbgomcnjaaTypes
namespace Go.Sal

variable {P : Program} {E : Env} {N : Nat} {L L' : List (Nat × Value)} {H H' : Heap} {K K' : Act → World → Prop} {Q : Exit → Act → World → Prop}
variable {ops : Array Oper} {rest : List Oper} {o : Oper} {d : Nat} {x y z : Operand}

/-! ### '==' -/

def plainV : Value → Bool
  | .nilIface | .agg _ => false
  | _ => true

def notNum : Value → Bool
  | .pointer _ | .slice _ _ _ | .map _ | .agg _ => true
  | _ => false

theorem run_equal {T : TypeId} {u v : Value} {b : Bool} (h : ∀ d w, (Op.equalIn (d + 1) T u v).run P w = .ok b w) (w : World) : (Op.equal T u v).run P w = .ok b w := h 9999 w

theorem run_eql_of {T : TypeId} {u v : Value} {b : Bool} (hu : notNum u = true) (h : ∀ d w, (Op.equalIn (d + 1) T u v).run P w = .ok b w) (w : World) : (binOp .eql T u v).run P w = .ok (.bool b) w := by
  have hq := run_equal h w
  have e : binOp .eql T u v = (do pure (.bool (← Op.equal T u v))) := by
    cases u <;> simp [notNum] at hu <;> (cases v <;> rfl)
  rw [e]; simp [hq]

theorem run_neq_of {T : TypeId} {u v : Value} {b : Bool} (hu : notNum u = true) (h : ∀ d w, (Op.equalIn (d + 1) T u v).run P w = .ok b w) (w : World) : (binOp .neq T u v).run P w = .ok (.bool (!b)) w := by
  have hq := run_equal h w
  have e : binOp .neq T u v = (do pure (.bool (!(← Op.equal T u v)))) := by
    cases u <;> simp [notNum] at hu <;> (cases v <;> rfl)
  rw [e]; simp [hq]

theorem run_eqGuard_plain {op : BinOp} {T : TypeId} {u v : Value} (hu : plainV u = true) (w : World) : (eqGuard op T x y u v).run P w = .ok () w := by
  unfold eqGuard
  cases u <;> simp [plainV] at hu <;> (cases op <;> simp)

theorem r_eqv {T T' : TypeId} {u v : Value} {b : Bool} (ho : o.op = .binOp .eql T x y T') (hx : evL L x = some u) (hy : evL L y = some v) (hp : plainV u = true) (hu : notNum u = true)
    (h : ∀ d w, (Op.equalIn (d + 1) T u v).run P w = .ok b w) : Run P E N L H o (.bool b) := fun a w hL _ => by
  simp only [execOp, ho, hL.ev hx, hL.ev hy, Sem.run_bind, run_eqGuard_plain hp, Result.andThen_ok, run_eql_of hu h, Sem.run_pure]
theorem r_nev {T T' : TypeId} {u v : Value} {b : Bool} (ho : o.op = .binOp .neq T x y T') (hx : evL L x = some u) (hy : evL L y = some v) (hp : plainV u = true) (hu : notNum u = true)
    (h : ∀ d w, (Op.equalIn (d + 1) T u v).run P w = .ok b w) : Run P E N L H o (.bool (!b)) := fun a w hL _ => by
  simp only [execOp, ho, hL.ev hx, hL.ev hy, Sem.run_bind, run_eqGuard_plain hp, Result.andThen_ok, run_neq_of hu h, Sem.run_pure]

theorem q_ptr_nil {T e : TypeId} {a : Addr} (hu : P.underlying T = some (.pointer e)) (d : Nat) (w : World) : (Op.equalIn (d + 1) T (.pointer (some a)) (.pointer none)).run P w = .ok false w := by simp [Op.equalIn, underlying, hu]
theorem q_nil_nil {T e : TypeId} (hu : P.underlying T = some (.pointer e)) (d : Nat) (w : World) : (Op.equalIn (d + 1) T (.pointer none) (.pointer none)).run P w = .ok true w := by simp [Op.equalIn, underlying, hu]
theorem q_map_nil {T k e : TypeId} {a : Nat} (hu : P.underlying T = some (.map k e)) (d : Nat) (w : World) : (Op.equalIn (d + 1) T (.map (some a)) (.map none)).run P w = .ok false w := by simp [Op.equalIn, underlying, hu]
theorem q_mapn_nil {T k e : TypeId} (hu : P.underlying T = some (.map k e)) (d : Nat) (w : World) : (Op.equalIn (d + 1) T (.map none) (.map none)).run P w = .ok true w := by simp [Op.equalIn, underlying, hu]
theorem q_slice_nil {T e : TypeId} {a : Option Addr} {n c n' c' : Nat} (hu : P.underlying T = some (.slice e)) (d : Nat) (w : World) : (Op.equalIn (d + 1) T (.slice a n c) (.slice none n' c')).run P w = .ok a.isNone w := by
  cases a <;> simp [Op.equalIn, underlying, hu]

/-! ### Results that stand in cells -/

inductive Res (P : Program) (L : List (Nat × Value)) (H : Heap) : List ResultVar → List Value → Prop
  | nil : Res P L H [] []
  | tmp {t : Nat} {v : Value} {rs : List ResultVar} {vs : List Value} (h : lk L t = some v) (r : Res P L H rs vs) : Res P L H (.tmp t :: rs) (v :: vs)
  | one {t b off : Nat} {T : TypeId} {cs : Array Value} {U : TypeId} {fr : Nat × Nat} {v : Value} {rs : List ResultVar} {vs : List Value} (h : lk L t = some (.pointer (some ⟨b, off, none⟩))) (hT : ∀ w, (isAgg T).run P w = .ok false w)
      (hb : (b, .cells cs U fr) ∈ H) (hc : cs[off]? = some v) (r : Res P L H rs vs) : Res P L H (.cell t T :: rs) (v :: vs)
  | agg {t b off n : Nat} {T : TypeId} {cs : Array Value} {U : TypeId} {fr : Nat × Nat} {xs : List Value} {rs : List ResultVar} {vs : List Value} (h : lk L t = some (.pointer (some ⟨b, off, none⟩))) (hT : ∀ w, (isAgg T).run P w = .ok true w) (hs : ∀ w, (sizeOf T).run P w = .ok n w)
      (hb : (b, .cells cs U fr) ∈ H) (hc : At cs off xs) (hn : xs.length = n) (r : Res P L H rs vs) : Res P L H (.cell t T :: rs) (.agg xs.toArray :: vs)

def retV : List Value → Value
  | [v] => v
  | vs => .tuple vs.toArray

def resOf (tmps : Array Value) : ResultVar → Sem Value
  | .tmp t => pure (tmps.getD t undef)
  | .cell a t => do loadVar t (← asAddr (tmps.getD a undef))

theorem Sl.getD {a : Act} (hL : Sl N L a) {t : Nat} {v : Value} (h : lk L t = some v) : a.tmps.getD t undef = v := by
  simp [hL.mem _ _ h]

theorem Res.run {rs : List ResultVar} {vs : List Value} (h : Res P L H rs vs) {a : Act} {w : World} (hL : Sl N L a) (hH : Holds E H w) :
    (rs.mapM (resOf a.tmps)).run P w = .ok vs w := by
  induction h with
  | nil => simp
  | tmp h r ih =>
    rw [List.mapM_cons]
    simp only [resOf, hL.getD h, Sem.run_bind, Sem.run_pure, Result.andThen_ok, ih]
  | one h hT hb hc r ih =>
    rename_i t b off T cs U fr v rs vs
    have hcell : w.cell? ⟨b, off, none⟩ = some v := (hH.cell hb off).trans hc
    rw [List.mapM_cons]
    simp only [resOf, hL.getD h, Sem.run_bind, Sem.run_pure, Result.andThen_ok, ih, asAddr, loadVar, hT w, Bool.false_eq_true, if_false, run_load_some hcell]
  | agg h hT hs hb hc hn r ih =>
    rename_i t b off n T cs U fr xs rs vs
    subst hn
    have hl := run_loadCells_at (P := P) hH hb hc
    rw [List.mapM_cons]
    simp only [resOf, hL.getD h, Sem.run_bind, Sem.run_pure, Result.andThen_ok, ih, asAddr, loadVar, hT w, hs w, if_true, hl]

theorem e_ret {fn : Func} {rs : List ResultVar} {vs : List Value} {Post : Value → Heap → Prop} (hr : fn.results = rs.toArray) (h : Res P L H rs vs) (hp : Post (retV vs) H) : Then E N L H (bodyPost P fn (RP E Post) .ret) := fun a w hL hH => by
  have hm := h.run (N := N) hL hH
  refine ⟨hL.defers, retV vs, ?_, retV vs, H, rfl, hp, hH⟩
  have e : results fn a.tmps = (do let vs ← rs.toArray.mapM (resOf a.tmps); pure (if h : vs.size = 1 then vs[0] else .tuple vs)) := by
    unfold results
    rw [hr]
    congr 2
  rw [e, Array.mapM_eq_mapM_toList]
  simp only [Sem.run_bind, Sem.run_map, hm, Result.andThen_ok, Sem.run_pure]
  congr 1
  clear e hm hp
  match vs with
  | [] => rfl
  | [v] => rfl
  | v :: u :: vs => simp [retV]

/-! ### []T{} -/
theorem o_slice0 {T e : TypeId} {n : Nat} (ho : o.op = .buildSlice T 0 #[]) (hd : o.dst = some d) (hN : Nat.blt d N = true) (hu : P.underlying T = some (.slice e)) (hs : ∀ w, (sizeOf e).run P w = .ok n w)
    (t : ∀ b, Then E N ((d, .slice (some ⟨b, 0, none⟩) 0 0) :: L) ((b, .cells ([] : List Value).toArray e (0, 0)) :: H) K) : Then E N L H (fun a w => o.wp P a w K Q) := fun a w hL hH => by
  have hr : (execOp a.eval o).run P w = .ok (.value (.slice (some ⟨w.heap.size, 0, none⟩) 0 0)) (w.alloc (.cells #[] e)) := by
    have e0 : ∀ f : Nat → Value, Array.map f (Array.range 0) = #[] := fun f => by simp
    simp [execOp, ho, Instr.buildSlice, underlying, hu, hs w, newRow, Instr.fill]
    rw [e0]
  show o.upon P a K Q ((execOp a.eval o).run P w)
  rw [hr, Oper.upon_value, hd]
  exact t _ _ _ (hL.put hN _) (hH.alloc _)

theorem Own.empty {sz : Nat} {T : TypeId} {b : Nat} : Own sz T (.slice (some ⟨b, 0, none⟩) 0 0) [] [(b, .cells ([] : List Value).toArray T (0, 0))] :=
  .inr ⟨b, 0, [], rfl, rfl, by simp, by simp, Nat.le_refl _, by omega⟩

/-- What an owned slice is to a reader. -/
theorem Own.at {α : Type} {enc : α → List Value} {sz : Nat} {T : TypeId} {v : Value} {l : List α} {X : Heap} (h : Own sz T v (l.map enc) X) :
    ∃ a c, v = .slice a l.length c ∧ SliceAt X enc sz a l.length c l := by
  rcases h.row with ⟨rfl, hx, rfl⟩ | ⟨b, cap, cs, rfl, rfl, hr, hc⟩
  · have : l = [] := by simpa using hx
    subst this
    exact ⟨none, 0, rfl, .nil⟩
  · refine ⟨some ⟨b, 0, none⟩, cap, by simp, rfl, by simpa using hc, fun _ => ⟨b, 0, cs, T, (0, 0), rfl, by simp, hr⟩⟩

theorem run_append_none {v : Value} {T1 ty e : TypeId} {i : TypeInfo} {sz : Nat} {xs : List (List Value)} {X : Heap} {b : Option Addr} {c : Nat} {w : World} (hu : P.underlying T1 = some (.slice e)) (hi : P.info? e = some i) (hown : Own sz e v xs X) :
    (Builtin.append_ #[T1, T1] ty #[v, .slice b 0 c]).run P w = .ok v w := by
  rcases hown with ⟨rfl, rfl, rfl⟩ | ⟨b', cap, junk, rfl, rfl, hxl, hcap, hlen, hmax⟩
  · cases b <;> simp [Builtin.append_, run_underlying hu, sizeOf, typeInfo, hi, Builtin.lenOf, Builtin.firstCells, loadCells, loadCellsFrom]
  · cases b <;> simp [Builtin.append_, run_underlying hu, sizeOf, typeInfo, hi, Builtin.lenOf, Builtin.firstCells, hlen, storeCells, loadCells, loadCellsFrom]

/-- append(s, t..): t is read, s is the call's own. -/
theorem o_appendS {α : Type} {T1 e : TypeId} {i : TypeInfo} {zv : Value} {enc : α → List Value} {sz : Nat} {v : Value} {xs l : List α} {X R : Heap} {ad : Option Addr} {m c' : Nat}
    (ho : o.op = .call { callee := .builtin .append, args := #[x, y], argTypes := #[T1, T1] }) (hd : o.dst = some d) (hN : Nat.blt d N = true) (hx : evL L x = some v) (hy : evL L y = some (.slice ad m c'))
    (hu : P.underlying T1 = some (.slice e)) (hi : P.info? e = some i) (hz : i.zero = some zv) (hsz : i.size = sz) (hzs : zv.cells.size = sz) (hpos : Nat.ble 1 sz = true)
    (hl : ∀ a, (enc a).length = sz) (h1 : ∀ a, (enc a).all Value.oneCell' = true) (hown : Own sz e v (xs.map enc) X) (hp : Pull X H R) (hsrc : SliceAt H enc sz ad m c' l)
    (hroom : (xs.length + m) * i.bytes ≤ 140737488355328) (hcnt : xs.length + m ≤ 9223372036854775807)
    (t : ∀ v' X', Own sz e v' ((xs ++ l).map enc) X' → Then E N ((d, v') :: L) (X' ++ R) K) : Then E N L H (fun a w => o.wp P a w K Q) := by
  rcases Nat.eq_zero_or_pos m with h0 | h0
  · subst h0
    have hl0 : l = [] := List.eq_nil_of_length_eq_zero hsrc.len
    subst hl0
    intro a w hL hH
    show o.upon P a K Q ((execOp a.eval o).run P w)
    rw [run_append_op (P := P) (w := w) (a := a) ho, hL.ev hx, hL.ev hy, run_append_none hu hi hown]
    simp only [Result.andThen_ok, Oper.upon_value]
    rw [hd]
    exact t v X (by simpa using hown) _ _ (hL.put hN _) (hH.perm hp.perm)
  · obtain ⟨b, off, cs, U, fr, rfl, hm, hr⟩ := hsrc.at_ h0
    have hflat : At cs off (l.map enc).flatten := by
      intro j u hj
      -- the j-th cell of the pieces laid end to end
      have hall : ∀ y ∈ l.map enc, y.length = sz := fun y hy => by obtain ⟨a, _, rfl⟩ := List.mem_map.1 hy; exact hl a
      have hlen := flatten_length hall
      have hlt := (List.getElem?_eq_some_iff.1 hj).1
      have hs0 : 0 < sz := by have := Nat.le_of_ble_eq_true hpos; omega
      have hq : j / sz < (l.map enc).length := by rw [hlen] at hlt; exact Nat.div_lt_of_lt_mul (by rwa [Nat.mul_comm])
      have hx := List.getElem?_eq_getElem hq
      have hmod : j % sz < ((l.map enc)[j / sz]).length := by rw [hall _ (List.getElem_mem hq)]; exact Nat.mod_lt _ hs0
      have hv := getElem?_flatten hall (j / sz) _ hx (j % sz) _ (List.getElem?_eq_getElem hmod)
      rw [Nat.div_add_mod' j sz] at hv
      rw [hv] at hj
      injection hj with hj
      subst hj
      have := (hr (j / sz) _ hx).2 (j % sz) _ (List.getElem?_eq_getElem hmod)
      rw [Nat.add_assoc, Nat.div_add_mod' j sz] at this
      exact this
    refine o_append (ys := l.map enc) ho hd hN hx hy hu hi hz hsz hzs hpos hown hp hm hflat (by simpa using hsrc.len) (fun y hy => by obtain ⟨a, _, rfl⟩ := List.mem_map.1 hy; exact hl a)
      (fun y hy u hu => by obtain ⟨a, _, rfl⟩ := List.mem_map.1 hy; exact List.all_eq_true.1 (h1 a) u hu) (by simpa [hsrc.len] using hroom) (by simpa [hsrc.len] using hcnt) ?_
    intro v' X' ho'
    exact t v' X' (by simpa using ho')

theorem sliceAt_one {α : Type} {enc : α → List Value} {sz b : Nat} {T : TypeId} {fr : Nat × Nat} {a : α} (hl : (enc a).length = sz) (hb : (b, .cells (enc a).toArray T fr) ∈ H) : SliceAt H enc sz (some ⟨b, 0, none⟩) 1 1 [a] := by
  refine ⟨rfl, Nat.le_refl _, fun _ => ⟨b, 0, _, T, fr, rfl, hb, fun i x hi => ?_⟩⟩
  cases i with
  | zero =>
    simp only [List.map_cons, List.map_nil, List.getElem?_cons_zero, Option.some.injEq] at hi
    subst hi
    refine ⟨hl, ?_⟩
    have := At.self (enc a)
    simpa using this
  | succ i => simp at hi

def encInt (n : Int) : List Value := [.int .i64 n]

/-! ### Maps with keys that are strings -/

structure IsMap {α : Type} (es : Array MapEntry) (clock : Nat) (enc : α → Value) (m : List (ByteArray × α)) : Prop where
  kv : es.toList.map (fun e => (e.key, e.val)) = m.map (fun p => (Value.string p.1, enc p.2))
  nd : (m.map (·.1)).Nodup
  born : (es.toList.map (·.born)).Nodup
  old : ∀ e ∈ es.toList, e.born < clock

theorem IsMap.empty {α : Type} (enc : α → Value) : IsMap #[] 0 enc [] := ⟨rfl, by simp, by simp, by simp⟩

theorem IsMap.size {α : Type} {es : Array MapEntry} {c : Nat} {enc : α → Value} {m : List (ByteArray × α)} (h : IsMap es c enc m) : es.size = m.length := by
  have := congrArg List.length h.kv
  simpa using this

def mget {α : Type} (m : List (ByteArray × α)) (k : ByteArray) : Option α := (m.find? fun p => decide (p.1 = k)).map (·.2)
def mset {α : Type} (m : List (ByteArray × α)) (k : ByteArray) (v : α) : List (ByteArray × α) :=
  if (mget m k).isSome then m.map (fun p => if p.1 = k then (k, v) else p) else m ++ [(k, v)]
def mdel {α : Type} (m : List (ByteArray × α)) (k : ByteArray) : List (ByteArray × α) := m.filter fun p => decide (p.1 ≠ k)

theorem beq_bytes (a b : ByteArray) : (a == b) = decide (a = b) := by
  have e : (a == b) = (a.data == b.data) := by cases a; cases b; rfl
  rw [e]
  by_cases h : a = b
  · subst h; simp
  · have : a.data ≠ b.data := fun h' => h (by cases a; cases b; simp at h'; simp [h'])
    simp [h, this]

theorem run_checkKey_str {t : TypeId} (ht : P.underlying t = some .string) (e : Bool) (s : ByteArray) (w : World) : (Instr.checkKey e 10000 t (.string s)).run P w = .ok () w := by
  have h : ∀ n, (Instr.checkKey e (n + 1) t (.string s)).run P w = .ok () w := fun n => by simp [Instr.checkKey, underlying, ht]
  exact h 9999

/-- Where a key stands in the entries. -/
def findAt (k : ByteArray) : List (ByteArray × Value) → Nat → Option (Nat × Value)
  | [], _ => none
  | p :: r, i => if p.1 = k then some (i, p.2) else findAt k r (i + 1)

theorem findNow_str (k : ByteArray) : ∀ (es : List MapEntry) (m : List (ByteArray × Value)) (i : Nat), es.map (fun e => (e.key, e.val)) = m.map (fun p => (Value.string p.1, p.2)) →
    Instr.findNow .string (.string k) es i = some (findAt k m i)
  | [], [], i, _ => rfl
  | [], _ :: _, i, h => by simp at h
  | _ :: _, [], i, h => by simp at h
  | e :: es, p :: m, i, h => by
    simp only [List.map_cons, List.cons.injEq, Prod.mk.injEq] at h
    obtain ⟨⟨h1, h2⟩, h3⟩ := h
    have ih := findNow_str k es m (i + 1) h3
    simp only [Instr.findNow, h1, Instr.sameNow, findAt, beq_bytes]
    by_cases e' : k = p.1
    · subst e'; simp [h2]
    · have e'' : ¬ p.1 = k := fun h => e' h.symm
      simp [e', e'', ih]

theorem findAt_get {k : ByteArray} : ∀ {m : List (ByteArray × Value)} {i : Nat}, (findAt k m i).map (·.2) = mget m k
  | [], i => rfl
  | p :: m, i => by
    have ih := findAt_get (k := k) (m := m) (i := i + 1)
    unfold mget at ih ⊢
    simp only [findAt, List.find?_cons]
    by_cases h : p.1 = k
    · simp [h]
    · simp [h, ih]

theorem run_findKey_str {α : Type} {t : TypeId} (ht : P.underlying t = some .string) {es : Array MapEntry} {c : Nat} {enc : α → Value} {m : List (ByteArray × α)} (h : IsMap es c enc m) (k : ByteArray) (w : World) :
    (Instr.findKey t (.string k) es.toList).run P w = .ok (findAt k (m.map fun p => (p.1, enc p.2)) 0) w := by
  have := findNow_str k es.toList (m.map fun p => (p.1, enc p.2)) 0 (by rw [h.kv]; simp)
  simp [Instr.findKey, underlying, ht, this]

theorem mget_map {α : Type} (enc : α → Value) (k : ByteArray) : ∀ (m : List (ByteArray × α)), mget (m.map fun p => (p.1, enc p.2)) k = (mget m k).map enc
  | [] => rfl
  | p :: m => by
    have ih := mget_map enc k m
    unfold mget at ih ⊢
    simp only [List.map_cons, List.find?_cons]
    by_cases h : p.1 = k
    · simp [h]
    · simp only [h, decide_false]
      exact ih

theorem run_getMap {w : World} (hH : Holds E H w) {b : Nat} {es : Array MapEntry} {c : Nat} (hb : (b, .map es c) ∈ H) : (getObj b).run P w = .ok (.map es c) w := by
  simp only [getObj, Sem.run, hH.mem _ _ hb]

theorem r_lookup2 {α : Type} {T kt et : TypeId} {b : Nat} {es : Array MapEntry} {c : Nat} {enc : α → Value} {m : List (ByteArray × α)} {k : ByteArray} {zv : Value} (ho : o.op = .lookup T x y true) (hx : evL L x = some (.map (some b))) (hy : evL L y = some (.string k))
    (hu : P.underlying T = some (.map kt et)) (hk : P.underlying kt = some .string) (hz : ∀ w, (zeroValue et).run P w = .ok zv w) (hb : (b, .map es c) ∈ H) (hm : IsMap es c enc m) :
    Run P E N L H o (.tuple #[((mget m k).map enc).getD zv, .bool (mget m k).isSome]) := fun a w hL hH => by
  have h1 := run_findKey_str (P := P) hk hm k w
  have h2 : (findAt k (m.map fun p => (p.1, enc p.2)) 0).map (·.2) = (mget m k).map enc := by rw [findAt_get, mget_map]
  have h3 := run_getMap (P := P) hH hb
  simp only [execOp, ho, hL.ev hx, hL.ev hy, Instr.lookup, Sem.run_bind, underlying, run_program, Result.andThen_ok, hu, h3, run_checkKey_str hk, h1, Sem.run_pure]
  cases hf : findAt k (m.map fun p => (p.1, enc p.2)) 0 with
  | none =>
    rw [hf] at h2
    have h2' : mget m k = none := by simpa using h2.symm
    simp [h2', hz w]
  | some q =>
    rw [hf] at h2
    obtain ⟨i, v⟩ := q
    cases hg : mget m k with
    | none => rw [hg] at h2; simp at h2
    | some u =>
      rw [hg] at h2
      simp at h2
      simp [h2]

theorem r_lookupZ {α : Type} {T kt et : TypeId} {b : Nat} {es : Array MapEntry} {c : Nat} {enc : α → Value} {m : List (ByteArray × α)} {k : ByteArray} {zx : α} (ho : o.op = .lookup T x y true) (hx : evL L x = some (.map (some b))) (hy : evL L y = some (.string k))
    (hu : P.underlying T = some (.map kt et)) (hk : P.underlying kt = some .string) (hz : ∀ w, (zeroValue et).run P w = .ok (enc zx) w) (hb : (b, .map es c) ∈ H) (hm : IsMap es c enc m) :
    Run P E N L H o (.tuple #[enc ((mget m k).getD zx), .bool (mget m k).isSome]) := by
  have h := r_lookup2 (P := P) (E := E) (N := N) ho hx hy hu hk hz hb hm
  have e : ((mget m k).map enc).getD (enc zx) = enc ((mget m k).getD zx) := by cases mget m k <;> rfl
  rwa [e] at h

end Go.Sal
