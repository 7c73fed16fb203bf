/- More rules: shifts, conversions, slices built of several parts. -/
import Derived.Test.YtpahhlbgomcnjaaMaps
namespace Go.Sal
variable {P : Program} {E : Env} {N : Nat} {L L' : List (Nat × Value)} {H H' : Heap} {K K' : Act → World → Prop} {Q : Exit → Act → World → Prop}
variable {ops : Array Oper} {rest : List Oper} {o : Oper} {d : Nat} {x y z : Operand}

theorem Run.eq {v v' : Value} (hr : Run P E N L H o v) (e : v = v') : Run P E N L H o v' := e ▸ hr

theorem r_shr1 {T T' : TypeId} {m : Int} {k : IntKind} (ho : o.op = .binOp .shr T x y T') (hx : evL L x = some (.int .u64 m)) (hy : evL L y = some (.int k 1)) :
    Run P E N L H o (.int .u64 (m / 2)) := fun a w hL _ => by
  simp [execOp, ho, hL.ev hx, hL.ev hy, eqGuard, binOp, shift_shr_u64 (x := m) (y := 1) (yk := k) (by omega) (by omega)]

theorem r_convU {T S : TypeId} {D : TypeDesc} {k : IntKind} {m : Int} (ho : o.op = .convert S T x) (hx : evL L x = some (.int k m)) (hs : P.underlying S = some D) (ht : P.underlying T = some (.int .u64)) (h1 : 0 ≤ m) (h2 : m ≤ 18446744073709551615) : Run P E N L H o (.int .u64 m) := by
  have := r_conv (P := P) (E := E) (N := N) (H := H) ho hx hs ht; rwa [wrap_u64 h1 h2] at this
theorem r_convI {T S : TypeId} {D : TypeDesc} {k : IntKind} {m : Int} (ho : o.op = .convert S T x) (hx : evL L x = some (.int k m)) (hs : P.underlying S = some D) (ht : P.underlying T = some (.int .i64)) (h1 : -9223372036854775808 ≤ m) (h2 : m ≤ 9223372036854775807) : Run P E N L H o (.int .i64 m) := by
  have := r_conv (P := P) (E := E) (N := N) (H := H) ho hx hs ht; rwa [wrap_i64 h1 h2] at this
theorem r_conv8 {T S : TypeId} {D : TypeDesc} {k : IntKind} {m : Int} (ho : o.op = .convert S T x) (hx : evL L x = some (.int k m)) (hs : P.underlying S = some D) (ht : P.underlying T = some (.int .u8)) (h1 : 0 ≤ m) (h2 : m ≤ 255) : Run P E N L H o (.int .u8 m) := by
  have := r_conv (P := P) (E := E) (N := N) (H := H) ho hx hs ht; rwa [wrap_u8 h1 h2] at this

def encStr (s : ByteArray) : List Value := [.string s]
def encVal (v : Value) : List Value := [v]

theorem fill_all {α : Type} {enc : α → List Value} {sz : Nat} : ∀ (l : List α) (vs : List Value) (k : Nat) (pre rest : List Value), pre.length = k * sz → rest.length = l.length * sz →
    vs.map Value.cells = l.map (fun a => (enc a).toArray) → (∀ a ∈ l, (enc a).length = sz) →
    Instr.fill (fun i => some (i * sz, sz)) (pre ++ rest).toArray (enumL k vs) = some (pre ++ (l.map enc).flatten).toArray
  | [], vs, k, pre, rest, hp, hr, hv, hl => by
    have h1 : vs = [] := by cases vs <;> simp_all
    have h2 : rest = [] := List.eq_nil_of_length_eq_zero (by simpa using hr)
    subst h1; subst h2
    simp [enumL, Instr.fill]
  | a :: l, [], k, pre, rest, hp, hr, hv, hl => by simp at hv
  | a :: l, v :: vs, k, pre, rest, hp, hr, hv, hl => by
    simp only [List.map_cons, List.cons.injEq] at hv
    obtain ⟨hv, hvs⟩ := hv
    have ha := hl a (by simp)
    have hsz : rest.length = sz + l.length * sz := by rw [hr, List.length_cons, Nat.add_mul]; omega
    have hcut : rest = rest.take sz ++ rest.drop sz := (List.take_append_drop _ _).symm
    have hz := zipIdx_fold (enc a) (k * sz) pre (rest.drop sz) (rest.take sz) (by rw [ha, List.length_take]; omega) hp.symm
    simp only [enumL, Instr.fill, hv, List.size_toArray, ha]
    rw [if_neg (by simp only [ne_eq, not_true_eq_false, decide_false, Bool.false_or, decide_eq_true_eq, List.length_append]; omega)]
    have e : (enc a).toArray.zipIdx = ((enc a).zipIdx 0).toArray := by simp
    have e2 : (enc a).zipIdx.toArray.foldl (fun cs (p : Value × Nat) => cs.setIfInBounds (k * sz + p.2) p.1) (pre ++ rest).toArray = (pre ++ enc a ++ rest.drop sz).toArray := by
      rw [List.foldl_toArray, ← hz]
      have e3 : (enc a).zipIdx (k * sz) = ((enc a).zipIdx 0).map (fun p => (p.1, k * sz + p.2)) := by
        rw [List.zipIdx_eq_map_add]
      rw [e3, List.foldl_map, List.append_assoc pre, ← hcut]
    rw [e]
    have e4 := fill_all l vs (k + 1) (pre ++ enc a) (rest.drop sz) (by rw [List.length_append, ha, hp, Nat.add_mul]; omega) (by rw [List.length_drop]; omega) hvs (fun b hb => hl b (by simp [hb]))
    simp only [List.map_cons, List.flatten_cons, ← List.append_assoc]
    rw [← e4]
    exact congrArg (fun c => Instr.fill (fun i => some (i * sz, sz)) c (enumL (k + 1) vs)) e2

/-- []T{x, y, ..} -/
theorem o_sliceN {α : Type} {enc : α → List Value} {l : List α} {T e : TypeId} {n sz : Nat} {zv : Value} {vs : List Value} {parts : List (Nat × Operand)} (ho : o.op = .buildSlice T n parts.toArray) (hd : o.dst = some d) (hN : Nat.blt d N = true)
    (hv : evParts L parts = some (enumL 0 vs)) (hn : l.length = n) (hc : vs.map Value.cells = l.map (fun a => (enc a).toArray)) (hl : ∀ a, (enc a).length = sz)
    (hu : P.underlying T = some (.slice e)) (hs : ∀ w, (sizeOf e).run P w = .ok sz w) (hz : ∀ w, (zeroValue e).run P w = .ok zv w) (hn1 : Nat.ble (n * sz) 16777216 = true) (hn0 : Nat.ble 1 (n * sz) = true)
    (t : ∀ b, Then E N ((d, .slice (some ⟨b, 0, none⟩) n n) :: L) ((b, .cells ((l.map enc).flatten).toArray e (0, 0)) :: H) K) : Then E N L H (fun a w => o.wp P a w K Q) := fun a w hL hH => by
  have hr : (execOp a.eval o).run P w = .ok (.value (.slice (some ⟨w.heap.size, 0, none⟩) n n)) (w.alloc (.cells ((l.map enc).flatten).toArray e)) := by
    have h1 : n * sz ≤ 16777216 := Nat.le_of_ble_eq_true hn1
    have h0 : 1 ≤ n * sz := Nat.le_of_ble_eq_true hn0
    have hlim : ¬ (n * sz > 2 ^ 24) := by omega
    have hne : ¬ (n * sz = 0) := by omega
    have hf := fill_all (enc := enc) (sz := sz) l vs 0 [] ((Array.range (n * sz)).map (fun i => zv.cells[i % zv.cells.size]!)).toList (by simp) (by simp [hn]) hc (fun a _ => hl a)
    simp only [List.nil_append, Array.toArray_toList] at hf
    have hp := hL.parts hv
    have hp' : (parts.toArray.map fun p => (p.1, a.eval p.2)).toList = enumL 0 vs := by simpa using hp
    simp only [execOp, ho, Instr.buildSlice, Sem.run_bind, underlying, run_program, Result.andThen_ok, hu, Sem.run_pure, hs w, if_neg hlim, if_neg hne, hz w, newRow]
    rw [hp', hf]
    simp only [Sem.run_bind, run_newObj, Result.andThen_ok, Sem.run_pure]
    rfl
  show o.upon P a K Q ((execOp a.eval o).run P w)
  rw [hr, Oper.upon_value, hd]
  exact t _ _ _ (hL.put hN _) (hH.alloc _)

theorem sliceAt_all {α : Type} {enc : α → List Value} {sz b n : Nat} {T : TypeId} {fr : Nat × Nat} {l : List α} (hl : ∀ a, (enc a).length = sz) (hn : l.length = n) (hb : (b, .cells ((l.map enc).flatten).toArray T fr) ∈ H) : SliceAt H enc sz (some ⟨b, 0, none⟩) n n l := by
  refine ⟨hn, Nat.le_refl _, fun _ => ⟨b, 0, _, T, fr, rfl, hb, fun i x hi => ?_⟩⟩
  rw [List.getElem?_map] at hi
  cases hli : l[i]? with
  | none => rw [hli] at hi; cases hi
  | some a =>
    rw [hli] at hi
    simp only [Option.map_some, Option.some.injEq] at hi
    subst hi
    refine ⟨hl a, fun j v hj => ?_⟩
    rw [Nat.zero_add]
    have := getElem?_flatten (xs := l.map enc) (sz := sz) (fun x hx => by obtain ⟨b, _, rfl⟩ := List.mem_map.1 hx; exact hl b) i (enc a) (by rw [List.getElem?_map, hli]; rfl) j v hj
    rw [List.getElem?_toArray]; exact this

/-! ### Regions that draw: several operations may come up -/

theorem w_op {S : Heap} {fuel : Nat} {listed : Array Bool} {i : Nat} (hi : ops[i]? = some o) (hg : o.guard = none)
    (t : Then E N L H (fun a w => o.wp P a w (fun a' w' => Holds E S w' ∧ Any P E ops Q S fuel (listed.setIfInBounds i true) a' w') Q)) :
    Then E N L H (wpOp P ops Q i (fun a' w' => Holds E S w' ∧ Any P E ops Q S fuel (listed.setIfInBounds i true) a' w')) := fun a w hL hH => by
  unfold wpOp
  simp only [hi]
  rw [if_pos (by simp [Region.wanted, hg])]
  exact .inl (t a w hL hH)
theorem w_opg {S : Heap} {fuel : Nat} {listed : Array Bool} {i j dj : Nat} {b : Bool} (hi : ops[i]? = some o) (hg : o.guard = some (j, b)) (hj : (ops[j]?).bind (·.dst) = some dj) (hb : lk L dj = some (.bool b))
    (t : Then E N L H (fun a w => o.wp P a w (fun a' w' => Holds E S w' ∧ Any P E ops Q S fuel (listed.setIfInBounds i true) a' w') Q)) :
    Then E N L H (wpOp P ops Q i (fun a' w' => Holds E S w' ∧ Any P E ops Q S fuel (listed.setIfInBounds i true) a' w')) := fun a w hL hH => by
  unfold wpOp
  simp only [hi]
  rw [if_pos (by simp [Region.wanted, hg, yielded_of hL hj hb])]
  exact .inl (t a w hL hH)
theorem w_opgh {S : Heap} {fuel : Nat} {listed : Array Bool} {i j dj : Nat} {b c : Bool} (hi : ops[i]? = some o) (hg : o.guard = some (j, b)) (hj : (ops[j]?).bind (·.dst) = some dj) (hb : lk L dj = some (.bool c)) (hc : c = b)
    (t : Then E N L H (fun a w => o.wp P a w (fun a' w' => Holds E S w' ∧ Any P E ops Q S fuel (listed.setIfInBounds i true) a' w') Q)) :
    Then E N L H (wpOp P ops Q i (fun a' w' => Holds E S w' ∧ Any P E ops Q S fuel (listed.setIfInBounds i true) a' w')) := by
  subst hc; exact w_opg hi hg hj hb t

theorem a_two {S : Heap} {fuel : Nat} {listed : Array Bool} {i j : Nat} (hr : Region.ready .any ops listed = [i, j])
    (t1 : Then E N L H (wpOp P ops Q i (fun a' w' => Holds E S w' ∧ Any P E ops Q S fuel (listed.setIfInBounds i true) a' w')))
    (t2 : Then E N L H (wpOp P ops Q j (fun a' w' => Holds E S w' ∧ Any P E ops Q S fuel (listed.setIfInBounds j true) a' w'))) : Then E N L H (Any P E ops Q S (fuel + 1) listed) :=
  a_ops hr (by simp) fun k hk => by
    simp only [List.mem_cons, List.not_mem_nil, or_false] at hk
    rcases hk with rfl | rfl
    · exact t1
    · exact t2
theorem a_three {S : Heap} {fuel : Nat} {listed : Array Bool} {i j k : Nat} (hr : Region.ready .any ops listed = [i, j, k])
    (t1 : Then E N L H (wpOp P ops Q i (fun a' w' => Holds E S w' ∧ Any P E ops Q S fuel (listed.setIfInBounds i true) a' w')))
    (t2 : Then E N L H (wpOp P ops Q j (fun a' w' => Holds E S w' ∧ Any P E ops Q S fuel (listed.setIfInBounds j true) a' w')))
    (t3 : Then E N L H (wpOp P ops Q k (fun a' w' => Holds E S w' ∧ Any P E ops Q S fuel (listed.setIfInBounds k true) a' w'))) : Then E N L H (Any P E ops Q S (fuel + 1) listed) :=
  a_ops hr (by simp) fun q hq => by
    simp only [List.mem_cons, List.not_mem_nil, or_false] at hq
    rcases hq with rfl | rfl | rfl
    · exact t1
    · exact t2
    · exact t3

theorem Then.of_eq {H2 : Heap} (e : H = H2) (t : Then E N L H2 K) : Then E N L H K := e ▸ t

/-! ### The order of strings -/

def strLt (s t : ByteArray) : Bool := Op.bytesLess s.toList t.toList

theorem r_slt {s t : ByteArray} {T T' : TypeId} (ho : o.op = .binOp .lss T x y T') (hx : evL L x = some (.string s)) (hy : evL L y = some (.string t)) : Run P E N L H o (.bool (strLt s t)) := fun a w hL _ => by
  simp [execOp, ho, hL.ev hx, hL.ev hy, eqGuard, binOp, Op.stringOp, strLt]
theorem r_sge {s t : ByteArray} {T T' : TypeId} (ho : o.op = .binOp .geq T x y T') (hx : evL L x = some (.string s)) (hy : evL L y = some (.string t)) : Run P E N L H o (.bool (!strLt s t)) := fun a w hL _ => by
  simp [execOp, ho, hL.ev hx, hL.ev hy, eqGuard, binOp, Op.stringOp, strLt]
theorem r_sgt {s t : ByteArray} {T T' : TypeId} (ho : o.op = .binOp .gtr T x y T') (hx : evL L x = some (.string s)) (hy : evL L y = some (.string t)) : Run P E N L H o (.bool (!(strLt s t || decide (s = t)))) := fun a w hL _ => by
  simp only [execOp, ho, hL.ev hx, hL.ev hy, eqGuard, binOp, Op.stringOp, strLt, beq_toList]
  simp

theorem bytesLess_irrefl : ∀ (l : List UInt8), Op.bytesLess l l = false
  | [] => rfl
  | a :: l => by simp [Op.bytesLess, bytesLess_irrefl l]
theorem bytesLess_trans : ∀ {a b c : List UInt8}, Op.bytesLess a b = true → Op.bytesLess b c = true → Op.bytesLess a c = true
  | [], [], _, h, _ => by simp [Op.bytesLess] at h
  | _ :: _, [], _, h, _ => by simp [Op.bytesLess] at h
  | [], _ :: _, [], _, h => by simp [Op.bytesLess] at h
  | [], _ :: _, _ :: _, _, _ => rfl
  | _ :: _, _ :: _, [], _, h => by simp [Op.bytesLess] at h
  | x :: a, y :: b, z :: c, h1, h2 => by
    simp only [Op.bytesLess, Bool.or_eq_true, decide_eq_true_eq, Bool.and_eq_true, beq_iff_eq] at h1 h2 ⊢
    rcases h1 with h1 | ⟨rfl, h1⟩
    · rcases h2 with h2 | ⟨rfl, h2⟩
      · exact .inl (UInt8.lt_trans h1 h2)
      · exact .inl h1
    · rcases h2 with h2 | ⟨rfl, h2⟩
      · exact .inl h2
      · exact .inr ⟨rfl, bytesLess_trans h1 h2⟩
theorem bytesLess_total : ∀ {a b : List UInt8}, Op.bytesLess a b = false → Op.bytesLess b a = false → a = b
  | [], [], _, _ => rfl
  | [], _ :: _, h, _ => by simp [Op.bytesLess] at h
  | _ :: _, [], _, h => by simp [Op.bytesLess] at h
  | x :: a, y :: b, h1, h2 => by
    simp only [Op.bytesLess, Bool.or_eq_false_iff, decide_eq_false_iff_not, Bool.and_eq_false_iff, beq_eq_false_iff_ne] at h1 h2
    have hxy : x = y := UInt8.le_antisymm (UInt8.not_lt.1 h2.1) (UInt8.not_lt.1 h1.1)
    subst hxy
    rw [bytesLess_total (h1.2.resolve_left (by simp)) (h2.2.resolve_left (by simp))]

theorem strLt_irrefl (s : ByteArray) : strLt s s = false := bytesLess_irrefl _
theorem strLt_trans {a b c : ByteArray} (h1 : strLt a b = true) (h2 : strLt b c = true) : strLt a c = true := bytesLess_trans h1 h2
theorem strLt_total {a b : ByteArray} (h1 : strLt a b = false) (h2 : strLt b a = false) : a = b := by
  have e := bytesLess_total h1 h2
  rw [ByteArray.toList_eq, ByteArray.toList_eq] at e
  cases a; cases b
  simp only [ByteArray.mk.injEq]
  exact Array.ext' e

end Go.Sal
