/- Arrays as lists: elements read and stored, slices of them, copy, append of zeros, make. -/
import Derived.Test.YtpahhlbgomcnjaaInline
import Derived.Laws.MakeOwn
namespace Go.Sal
set_option linter.unusedVariables false
set_option linter.unusedSimpArgs false
variable {P : Program} {E : Env} {N N' M : Nat} {L L' : List (Nat × Value)} {H H' R : Heap} {K K' : Act → World → Prop} {Q : Exit → Act → World → Prop}
variable {ops : Array Oper} {rest : List Oper} {o : Oper} {d : Nat} {x y z : Operand}

def encU8 (b : UInt8) : List Value := [.int .u8 (b.toNat : Int)]
def encU32 (b : UInt32) : List Value := [.int .u32 (b.toNat : Int)]
def encU64 (b : UInt64) : List Value := [.int .u64 (b.toNat : Int)]

theorem flat_u8 (l : List UInt8) : (l.map encU8).flatten = l.map u8 := by
  induction l with
  | nil => rfl
  | cons a l ih => simp [encU8, u8, ih]
theorem flat_u64 (l : List UInt64) : (l.map encU64).flatten = l.map u64 := by
  induction l with
  | nil => rfl
  | cons a l ih => simp [encU64, u64, ih]

/-- An element of an array that lies in a block of its own. -/
theorem arr_get {α : Type} [Inhabited α] {f : α → Value} {l : List α} {off i : Nat} (ho : off = i) (h : i < l.length) : ((l.map f).toArray)[off]? = some (f (l[i]!)) := by
  subst ho
  rw [List.getElem?_toArray, map_get h]

theorem getBangI {α : Type} [Inhabited α] {l : List α} {j : Int} {i : Nat} (hj : j.toNat = i) (h : i < l.length) : l[j.toNat]? = some (l[i]!) := by
  rw [hj, List.getElem?_eq_getElem h, getElem!_pos l i h]
theorem r_loadAt {T : TypeId} {b off : Nat} {cs : Array Value} {U : TypeId} {fr : Nat × Nat} {v : Value} (ho : o.op = .load T x) (hT : ∀ w, (isAgg T).run P w = .ok false w)
    (hx : evL L x = some (.pointer (some ⟨b, off, none⟩))) (hb : (b, .cells cs U fr) ∈ H) (hc : cs[off]? = some v) : Run P E N L H o v := r_load ho hT hx hb hc

/-- a[i] = v, the array in a block of its own. -/
theorem o_storeA {α : Type} {f : α → Value} {l : List α} {a0 : α} {i : Nat} {T b off : Nat} {U : TypeId} (ho : o.op = .store T x y) (hd : o.dst = none) (hx : evL L x = some (.pointer (some ⟨b, off, none⟩))) (hy : evL L y = some (f a0)) (h1 : (f a0).oneCell' = true)
    (hs : ∀ w, (sizeOf T).run P w = .ok 1 w) (hp : PullC (b, .cells (l.map f).toArray U (0, 0)) H R) (hi : off = i) (hlt : i < l.length) (t : Then E N L ((b, .cells ((l.set i a0).map f).toArray U (0, 0)) :: R) K) :
    Then E N L H (fun a w => o.wp P a w K Q) := by
  subst hi
  refine o_store ho hd hx hy h1 hs hp (by simpa using hlt) ?_
  rw [map_set]; exact t

/-- The whole block is stored anew. -/
theorem o_storeW {T b : Nat} {cs ys : List Value} {U : TypeId} (ho : o.op = .store T x y) (hd : o.dst = none) (hx : evL L x = some (.pointer (some ⟨b, 0, none⟩))) (hy : evL L y = some (.agg ys.toArray)) (h1 : ∀ v ∈ ys, v.oneCell' = true)
    (hs : ∀ w, (sizeOf T).run P w = .ok ys.length w) (hp : PullC (b, .cells cs.toArray U (0, 0)) H R) (hl : ys.length = cs.length) (t : Then E N L ((b, .cells ys.toArray U (0, 0)) :: R) K) :
    Then E N L H (fun a w => o.wp P a w K Q) := by
  refine o_storeAgg ho hd hx hy (by simpa using h1) hs hp (by simp [hl]) ?_
  have e : over cs 0 ys = ys := by
    unfold over
    rw [List.take_zero, List.nil_append, Nat.zero_add, hl, List.drop_length, List.append_nil]
  rw [e]; exact t
/-- A part of a block is stored anew. -/
theorem o_storeP {T b off : Nat} {cs ys pre old post : List Value} {U : TypeId} (ho : o.op = .store T x y) (hd : o.dst = none) (hx : evL L x = some (.pointer (some ⟨b, off, none⟩))) (hy : evL L y = some (.agg ys.toArray)) (h1 : ∀ v ∈ ys, v.oneCell' = true)
    (hs : ∀ w, (sizeOf T).run P w = .ok ys.length w) (hp : PullC (b, .cells cs.toArray U (0, 0)) H R) (hcs : cs = pre ++ old ++ post) (ho1 : pre.length = off) (hl : old.length = ys.length) (t : Then E N L ((b, .cells (pre ++ ys ++ post).toArray U (0, 0)) :: R) K) :
    Then E N L H (fun a w => o.wp P a w K Q) := by
  subst hcs; subst ho1
  refine o_storeAgg ho hd hx hy (by simpa using h1) hs hp (by simp; omega) ?_
  have e : over (pre ++ old ++ post) pre.length ys = pre ++ ys ++ post := by
    unfold over
    rw [show pre ++ old ++ post = pre ++ (old ++ post) from List.append_assoc .., List.take_left, ← List.drop_drop, List.drop_left, ← hl, List.drop_left]
  rw [e]; exact t

theorem size_len {α : Type} {f : α → Value} {l : List α} {n T : Nat} (h : l.length = n) (hs : ∀ w, (sizeOf T).run P w = .ok n w) : ∀ w, (sizeOf T).run P w = .ok ((l.map f).length) w := by
  rw [List.length_map, h]; exact hs
theorem one_words {α : Type} {f : α → Value} (hf : ∀ a, (f a).oneCell' = true) (l : List α) : ∀ v ∈ l.map f, v.oneCell' = true := fun v hv => by
  obtain ⟨a, _, rfl⟩ := List.mem_map.1 hv; exact hf a

/-- x[i], x an array by value. -/
theorem r_indexArr {α : Type} [Inhabited α] {f : α → Value} {l : List α} {T e n i : Nat} {k : IntKind} {j : Int} (ho : o.op = .index T x y) (hx : evL L x = some (.agg (l.map f).toArray)) (hy : evL L y = some (.int k j))
    (hu : P.underlying T = some (.array n e)) (ha : ∀ w, (isAgg e).run P w = .ok false w) (hs : ∀ w, (sizeOf e).run P w = .ok 1 w) (hj0 : 0 ≤ j) (hj : j.toNat = i) (hn : i < n) (hl : i < l.length) : Run P E N L H o (f (l[i]!)) := fun a w hL _ => by
  subst hj
  have h2 : j < n := by omega
  have h3 : ((l.map f).toArray)[j.toNat]? = some (f (l[j.toNat]!)) := arr_get rfl hl
  simp [execOp, ho, hL.ev hx, hL.ev hy, Instr.index, asIntOf, underlying, hu, hs w, hj0, h2, part, asAgg, ha w, List.getElem?_eq_getElem hl]

/-- An array in a block of its own, as a slice of it. -/
theorem sliceAt_arr {α : Type} {f : α → Value} {enc : α → List Value} {l : List α} {b n : Nat} {T : TypeId} {fr : Nat × Nat} (he : ∀ a, enc a = [f a]) (hb : (b, .cells (l.map f).toArray T fr) ∈ H) (hn : l.length = n) : SliceAt H enc 1 (some ⟨b, 0, none⟩) n n l := by
  refine ⟨hn, Nat.le_refl _, fun _ => ⟨b, 0, _, T, fr, rfl, hb, fun i x hi => ?_⟩⟩
  rw [List.getElem?_map] at hi
  cases hli : l[i]? with
  | none => rw [hli] at hi; cases hi
  | some a =>
    rw [hli] at hi
    simp only [Option.map_some, Option.some.injEq] at hi
    subst hi
    rw [he a]
    refine ⟨rfl, fun j v hj => ?_⟩
    cases j with
    | zero =>
      simp only [List.getElem?_cons_zero, Option.some.injEq] at hj
      subst hj
      simp [hli]
    | succ j => simp at hj

/-- a[l:], a an array in memory. -/
theorem r_arrFrom {T e : TypeId} {b off n : Nat} {m : Nat} {k : IntKind} {i : Int} (ho : o.op = .slice T x (some y) none none) (hx : evL L x = some (.pointer (some ⟨b, off, none⟩))) (hy : evL L y = some (.int k i))
    (hu : P.underlying T = some (.array n e)) (hs : ∀ w, (sizeOf e).run P w = .ok m w) (h0 : 0 ≤ i) (h1 : i < n) : Run P E N L H o (.slice (some ⟨b, off + i.toNat * m, none⟩) (n - i.toNat) (n - i.toNat)) := fun a w hL _ => by
  have hb := run_sliceBound_ok (P := P) (w := w) (k := k) (u := n) (c := .sliceB) h0 (by omega)
  have ha : (if n = i.toNat then (⟨b, off, none⟩ : Addr) else (⟨b, off, none⟩ : Addr).add (i.toNat * m)) = ⟨b, off + i.toNat * m, none⟩ := by rw [if_neg (by omega), addr_add]
  simp [execOp, ho, hL.ev hx, hL.ev hy, Instr.sliceAt, Instr.sureAddr, underlying, hu, Instr.sliceBounds, hb, hs w]
  exact ha

/-- [n]T(s): the pointer is the slice's own. -/
theorem r_toArr {T e : TypeId} {n len c : Nat} {ad : Option Addr} (ho : o.op = .sliceToArrayPointer T x) (hx : evL L x = some (.slice ad len c)) (hu : P.underlying T = some (.array n e)) (h : n ≤ len) : Run P E N L H o (.pointer ad) := fun a w hL _ => by
  have h' : ¬ (len < n) := by omega
  simp [execOp, ho, hL.ev hx, Instr.arrayAt, underlying, hu, h']

/-- A row's first pieces, laid end to end, as they stand. -/
theorem Row.flat {cs : Array Value} {off sz : Nat} {xs : List (List Value)} (h : Row cs off sz xs) (hpos : 0 < sz) : At cs off xs.flatten := by
  intro j u hj
  have hall : ∀ y ∈ xs, y.length = sz := fun y hy => by obtain ⟨i, hi⟩ := List.getElem?_of_mem hy; exact (h i y hi).1
  have hlen := flatten_length hall
  have hlt := (List.getElem?_eq_some_iff.1 hj).1
  have hq : j / sz < xs.length := by rw [hlen] at hlt; exact Nat.div_lt_of_lt_mul (by rwa [Nat.mul_comm])
  have hx := List.getElem?_eq_getElem hq
  have hmod : j % sz < (xs[j / sz]).length := by rw [hall _ (List.getElem_mem hq)]; exact Nat.mod_lt _ hpos
  have hv := getElem?_flatten hall (j / sz) _ hx (j % sz) _ (List.getElem?_eq_getElem hmod)
  rw [Nat.div_add_mod' j sz] at hv
  rw [hv] at hj
  injection hj with hj
  subst hj
  have := (h (j / sz) _ hx).2 (j % sz) _ (List.getElem?_eq_getElem hmod)
  rwa [Nat.add_assoc, Nat.div_add_mod' j sz] at this

theorem At.take {cs : Array Value} {off : Nat} {xs : List Value} (h : At cs off xs) (n : Nat) : At cs off (xs.take n) := fun j v hj => by
  rw [List.getElem?_take] at hj
  split at hj
  · exact h j v hj
  · cases hj

theorem SliceAt.drop {α : Type} {D : Heap} {enc : α → List Value} {sz : Nat} {a : Option Addr} {n c k : Nat} {l : List α} (h : SliceAt D enc sz a n c l) (hk : k ≤ n) : SliceAt D enc sz (slAddr a c k sz) (n - k) (c - k) (l.drop k) := by
  refine ⟨by rw [List.length_drop, h.len], by have := h.cap; omega, fun h0 => ?_⟩
  obtain ⟨b, off, cs, T, fr, rfl, hm, hr⟩ := h.at_ (by omega)
  have hcap := h.cap
  refine ⟨b, off + k * sz, cs, T, fr, slAddr_some (by omega), hm, ?_⟩
  rw [List.map_drop]
  exact hr.drop

theorem SliceAt.sub {α : Type} {D : Heap} {enc : α → List Value} {sz : Nat} {a : Option Addr} {n c i j : Nat} {l : List α} (h : SliceAt D enc sz a n c l) (hi : i ≤ j) (hj : j ≤ n) : SliceAt D enc sz (slAddr a c i sz) (j - i) (c - i) ((l.drop i).take (j - i)) :=
  (h.drop (by omega)).take (by omega) (by have := h.cap; omega)

/-- The first n bytes of a row, read as an array. -/
theorem r_loadArrS {T : TypeId} {a : Option Addr} {n c k : Nat} {l : List UInt8} (ho : o.op = .load T x) (hT : ∀ w, (isAgg T).run P w = .ok true w) (hs : ∀ w, (sizeOf T).run P w = .ok k w)
    (hx : evL L x = some (.pointer a)) (h : SliceAt H encU8 1 a n c l) (hk : k ≤ n) (hpos : Nat.blt 0 k = true) : Run P E N L H o (.agg ((l.take k).map u8).toArray) := by
  have hpos' : 0 < k := by simpa using hpos
  obtain ⟨b, off, cs, U, fr, rfl, hm, hr⟩ := h.at_ (by omega)
  have hf := (hr.flat (by omega)).take k
  rw [flat_u8, ← List.map_take] at hf
  exact r_loadAgg ho hT hs hx hm hf (by rw [List.length_map, List.length_take, h.len]; omega)

/-- make([]T, n) -/
theorem o_makeSlice {T e : TypeId} {i : TypeInfo} {z : Value} {k k' : IntKind} {n : Int} (ho : o.op = .makeSlice T x y) (hd : o.dst = some d) (hN : Nat.blt d N = true) (hx : evL L x = some (.int k n)) (hy : evL L y = some (.int k' n))
    (hu : P.underlying T = some (.slice e)) (hi : P.info? e = some i) (hz : i.zero = some z) (h0 : 0 ≤ n) (hcells : n.toNat * i.size ≤ 16777216) (hbytes : (i.bytes : Int) * n ≤ 281474976710656) (h63 : n ≤ 9223372036854775807)
    (t : ∀ b, Then E N ((d, .slice (some ⟨b, 0, none⟩) n.toNat n.toNat) :: L) ((b, .cells (madeCells z.cells (n.toNat * i.size)) e (0, 0)) :: H) K) : Then E N L H (fun a w => o.wp P a w K Q) := fun a w hL hH => by
  have hr := run_makeSlice (P := P) (w := w) T e i z hu hi hz k k' n n h0 (Int.le_refl _) hcells hbytes h63
  have hx2 : (execOp a.eval o).run P w = .ok (.value (.slice (some ⟨w.heap.size, 0, none⟩) n.toNat n.toNat)) (w.alloc (.cells (madeCells z.cells (n.toNat * i.size)) e)) := by
    simp only [execOp, ho, hL.ev hx, hL.ev hy, Sem.run_bind, hr, Result.andThen_ok, Sem.run_pure]
  show o.upon P a K Q ((execOp a.eval o).run P w)
  rw [hx2, Oper.upon_value, hd]
  exact t _ _ _ (hL.put hN _) (hH.alloc _)

/-- copy(d, s): the target lies in a block of its own. -/
theorem o_copy {T1 T2 e : TypeId} {b off dn dc sn sc : Nat} {ad : Option Addr} {cs new pre old post : List Value} {U : TypeId} {l : List UInt8}
    (ho : o.op = .call { callee := .builtin .copy, args := #[x, y], argTypes := #[T1, T2] }) (hd : o.dst = some d) (hN : Nat.blt d N = true) (hx : evL L x = some (.slice (some ⟨b, off, none⟩) dn dc)) (hy : evL L y = some (.slice ad sn sc))
    (hu : P.underlying T1 = some (.slice e)) (hs : (P.info? e).map (·.size) = some 1) (hp : PullC (b, .cells cs.toArray U (0, 0)) H R) (hsrc : SliceAt H encU8 1 ad sn sc l) (hpos : 0 < sn) (hle : sn ≤ dn)
    (hcs : cs = pre ++ old ++ post) (hpre : pre.length = off) (hold : old.length = sn)
    (t : Then E N ((d, .int .i64 (sn : Int)) :: L) ((b, .cells (pre ++ l.map u8 ++ post).toArray U (0, 0)) :: R) K) : Then E N L H (fun a w => o.wp P a w K Q) := fun a w hL hH => by
  subst hcs; subst hpre
  have hlen : l.length = sn := hsrc.len
  obtain ⟨b2, off2, cs2, U2, fr2, rfl, hm, hr⟩ := hsrc.at_ hpos
  have hf := hr.flat (by omega)
  rw [flat_u8] at hf
  have hH1 : Holds E ((b, .cells (pre ++ old ++ post).toArray U (0, 0)) :: R) w := hH.perm hp.perm
  have hcell : ∀ j v, (l.map u8)[j]? = some v → w.cell? ((⟨b2, off2, none⟩ : Addr).add j) = some v := fun j v hj => by
    rw [addr_add, hH.cell hm]; exact hf j v hj
  have hrun := run_copy_row (P := P) w T1 T2 o.type e b pre.length dn dc ⟨b2, off2, none⟩ sn sc (pre ++ old ++ post).toArray U (l.map u8) hu hs (hH1.mem _ _ List.mem_cons_self) (by rw [List.length_map, hlen]; exact (Nat.min_eq_left hle).symm) hcell (by simp; omega) (one_words (fun _ => rfl) _)
  have hex : (execOp a.eval o).run P w = .ok (.value (.int .i64 (sn : Int))) (w.setRow b (pre ++ l.map u8 ++ post).toArray) := by
    simp only [execOp, ho, resolve, invoke, builtin, Sem.run_bind, Sem.run_pure, Result.andThen_ok, List.map_toArray, List.map_cons, List.map_nil, hL.ev hx, hL.ev hy, hrun]
    have e : (pre ++ old ++ post).toArray.toList.take pre.length ++ l.map u8 ++ (pre ++ old ++ post).toArray.toList.drop (pre.length + (l.map u8).length) = pre ++ l.map u8 ++ post := by
      show List.take pre.length (pre ++ old ++ post) ++ l.map u8 ++ List.drop (pre.length + (l.map u8).length) (pre ++ old ++ post) = _
      rw [List.length_map, hlen, ← hold, show pre ++ old ++ post = pre ++ (old ++ post) from List.append_assoc .., List.take_left, ← List.drop_drop, List.drop_left, List.drop_left]
    rw [e, List.length_map, hlen]
    rfl
  show o.upon P a K Q ((execOp a.eval o).run P w)
  rw [hex, Oper.upon_value, hd]
  exact t _ _ (hL.put hN _) (hH1.setRow _)

/-- copy(d[k:], s), d an array of bytes in a block of its own. -/
theorem o_copyA {T1 T2 e : TypeId} {b off dn dc sn sc k : Nat} {ad : Option Addr} {U : TypeId} {l m : List UInt8}
    (ho : o.op = .call { callee := .builtin .copy, args := #[x, y], argTypes := #[T1, T2] }) (hd : o.dst = some d) (hN : Nat.blt d N = true) (hx : evL L x = some (.slice (some ⟨b, off, none⟩) dn dc)) (hy : evL L y = some (.slice ad sn sc))
    (hu : P.underlying T1 = some (.slice e)) (hs : (P.info? e).map (·.size) = some 1) (hp : PullC (b, .cells (l.map u8).toArray U (0, 0)) H R) (hsrc : SliceAt H encU8 1 ad sn sc m) (hpos : 0 < sn) (hle : sn ≤ dn)
    (hoff : off = k) (hfit : k + sn ≤ l.length)
    (t : Then E N ((d, .int .i64 (sn : Int)) :: L) ((b, .cells ((l.take k ++ m ++ l.drop (k + sn)).map u8).toArray U (0, 0)) :: R) K) : Then E N L H (fun a w => o.wp P a w K Q) := by
  have hl := hsrc.len
  refine o_copy (pre := (l.take k).map u8) (old := ((l.drop k).take sn).map u8) (post := (l.drop (k + sn)).map u8) (new := []) ho hd hN hx hy hu hs hp hsrc hpos hle ?_ ?_ ?_ ?_
  · rw [← List.map_append, ← List.map_append, List.append_assoc, ← List.drop_drop, List.take_append_drop, List.take_append_drop]
  · rw [List.length_map, List.length_take, hoff]; omega
  · rw [List.length_map, List.length_take, List.length_drop]; omega
  · rw [← List.map_append, ← List.map_append]; exact t
theorem SliceAt.cast {α : Type} {D : Heap} {enc : α → List Value} {sz : Nat} {a : Option Addr} {n c : Nat} {l l' : List α} (e : l = l') (h : SliceAt D enc sz a n c l) : SliceAt D enc sz a n c l' := e ▸ h
theorem Own.arr {l : List UInt8} {b n : Nat} {T : TypeId} (h : l.length = n) (hn : n ≤ 9223372036854775807) : Own 1 T (.slice (some ⟨b, 0, none⟩) n n) (l.map encU8) [(b, .cells (l.map u8).toArray T (0, 0))] :=
  .inr ⟨b, n, [], by simp [h], by rw [List.append_nil, flat_u8], fun x hx => by obtain ⟨a, _, rfl⟩ := List.mem_map.1 hx; rfl, by rw [List.append_nil, flat_u8]; simp [h], by simp [h], hn⟩
/-- A block that begins with an array. -/
theorem At.head {A B : List Value} : At (A ++ B).toArray 0 A := fun j v hj => by
  have hlt := (List.getElem?_eq_some_iff.1 hj).1
  rw [Nat.zero_add, List.getElem?_toArray, List.getElem?_append_left hlt]; exact hj
theorem mix_get {A B : List Value} {off n k : Nat} {v : Value} (hA : A.length = n) (ho : off = n + k) (hB : B[k]? = some v) : ((A ++ B).toArray)[off]? = some v := by
  subst ho; subst hA
  rw [List.getElem?_toArray, List.getElem?_append_right (by omega), Nat.add_sub_cancel_left]; exact hB
theorem mix_set {A B : List Value} {n k off : Nat} {v : Value} (hA : A.length = n) (ho : off = n + k) : (A ++ B).set off v = A ++ B.set k v := by
  subst ho; subst hA
  rw [List.set_append_right _ _ (by omega), Nat.add_sub_cancel_left]
theorem mix_len {α : Type} {f : α → Value} {l : List α} {B : List Value} {n k : Nat} (h : l.length = n) (hk : B.length = k) : (l.map f ++ B).length = n + k := by rw [List.length_append, List.length_map, h, hk]
theorem mix_one {α : Type} {f : α → Value} {l : List α} {B : List Value} (hf : ∀ a, (f a).oneCell' = true) (hB : B.all Value.oneCell' = true) : ∀ v ∈ l.map f ++ B, v.oneCell' = true := fun v hv => by
  rcases List.mem_append.1 hv with hv | hv
  · obtain ⟨a, _, rfl⟩ := List.mem_map.1 hv; exact hf a
  · exact List.all_eq_true.1 hB v hv
theorem mix_lt {cs : List Value} {n off : Nat} (h : cs.length = n) (ho : off < n) : Nat.blt off cs.length = true := by rw [h]; simpa using ho
theorem size_eq {ys : List Value} {n T : Nat} (h : ys.length = n) (hs : ∀ w, (sizeOf T).run P w = .ok n w) : ∀ w, (sizeOf T).run P w = .ok ys.length w := by rw [h]; exact hs
theorem copy_len {l m : List UInt8} {k sn n : Nat} (hl : l.length = n) (hm : m.length = sn) (h : k + sn ≤ n) : (l.take k ++ m ++ l.drop (k + sn)).length = n := by
  rw [List.length_append, List.length_append, List.length_take, List.length_drop]; omega
theorem SliceAt.none_nil {α : Type} {D : Heap} {enc : α → List Value} {sz : Nat} {a : Option Addr} {n c : Nat} {l : List α} (h : SliceAt D enc sz a n c l) (hn : a.isNone = true) : l = [] := by
  rcases Nat.eq_zero_or_pos n with h0 | h0
  · exact List.eq_nil_of_length_eq_zero (by rw [h.len, h0])
  · obtain ⟨b, off, cs, T, fr, rfl, _⟩ := h.at_ h0
    cases hn
theorem made_u8 {m n : Nat} (h : m = n) : madeCells (Value.int .u8 0).cells m = ((List.replicate n (0 : UInt8)).map u8).toArray := by
  subst h
  apply Array.ext
  · simp [madeCells]
  · intro i h1 h2
    simp [madeCells, u8, Value.cells, Nat.mod_one]
theorem Own.castL {α : Type} {enc : α → List Value} {sz : Nat} {T : TypeId} {v : Value} {xs : List (List Value)} {l' : List α} {X : Heap} (e : xs = l'.map enc) (h : Own sz T v xs X) : Own sz T v (l'.map enc) X := e ▸ h
theorem Own.cast {α : Type} {enc : α → List Value} {sz : Nat} {T : TypeId} {v : Value} {l l' : List α} {X : Heap} (e : l = l') (h : Own sz T v (l.map enc) X) : Own sz T v (l'.map enc) X := e ▸ h
theorem Own.one {α : Type} {enc : α → List Value} {sz b : Nat} {T : TypeId} {a : α} (h : (enc a).length = sz) : Own sz T (.slice (some ⟨b, 0, none⟩) 1 1) ([a].map enc) [(b, .cells (enc a).toArray T (0, 0))] :=
  .inr ⟨b, 1, [], rfl, by simp, by simp [h], by simp [h], by simp, by omega⟩

theorem own_zeros {sz : Nat} : ∀ (m : Nat) {zs : List Value}, zs.length = sz → (∀ x ∈ List.replicate m zs, x.length = sz) := fun m zs h x hx => by
  rw [List.eq_of_mem_replicate hx]; exact h

theorem zeroCells_list (z : Array Value) (n : Nat) : Builtin.zeroCells z n = ((List.replicate n z.toList).flatten).toArray := by
  apply Array.ext
  · rw [size_zeroCells]
    simp [List.length_flatten]
  · intro i h1 h2
    have hz : 0 < z.size := by
      rw [size_zeroCells] at h1
      rcases Nat.eq_zero_or_pos z.size with h | h
      · rw [h] at h1; omega
      · exact h
    have hall : ∀ x ∈ List.replicate n z.toList, x.length = z.size := own_zeros n (by simp)
    rw [size_zeroCells] at h1
    have hq : i / z.size < n := Nat.div_lt_of_lt_mul (by rwa [Nat.mul_comm])
    have hmod := Nat.mod_lt i hz
    have hv := getElem?_flatten hall (i / z.size) z.toList (by rw [List.getElem?_replicate, if_pos hq]) (i % z.size) z[i % z.size] (by simp [hmod])
    rw [Nat.div_add_mod' i z.size] at hv
    have : (Builtin.zeroCells z n)[i]? = some z[i % z.size] := by
      rw [Array.getElem?_eq_getElem (by rw [size_zeroCells]; exact h1)]
      simp [Builtin.zeroCells]
      exact getElem!_pos z _ hmod
    rw [Array.getElem?_eq_getElem (by rw [size_zeroCells]; exact h1)] at this
    injection this with this
    rw [this]
    simp only [List.getElem_toArray]
    have h3 := (List.getElem?_eq_some_iff.1 hv)
    exact h3.2.symm


theorem run_append_op2 {a : Act} {w : World} {T1 T2 : TypeId} (ho : o.op = .call { callee := .builtin .append, args := #[x, y], argTypes := #[T1, T2] }) :
    (execOp a.eval o).run P w = ((Builtin.append_ #[T1, T2] o.type #[a.eval x, a.eval y]).run P w).andThen fun v w' => .ok (.value v) w' := by
  simp only [execOp, ho, resolve, invoke, builtin, Sem.run_bind, Sem.run_pure, Result.andThen_ok, List.map_toArray, List.map_cons, List.map_nil]

/-- append(s, make([]T, n)..) -/
theorem o_appendZ {T1 T2 e : TypeId} {i : TypeInfo} {zv : Value} {sz b cap : Nat} {junk : List Value} {xs : List (List Value)} {n : Int} {k k2 : IntKind}
    (ho : o.op = .call { callee := .builtin .append, args := #[x, y], argTypes := #[T1, T2] }) (hd : o.dst = some d) (hN : Nat.blt d N = true) (hx : evL L x = some (.slice (some ⟨b, 0, none⟩) xs.length cap)) (hy : evL L y = some (.int k n))
    (hu : P.underlying T1 = some (.slice e)) (hu2 : P.underlying T2 = some (.int k2)) (hi : P.info? e = some i) (hz : i.zero = some zv) (hsz : i.size = sz) (hzs : zv.cells.size = sz) (hpos : Nat.ble 1 sz = true)
    (hz1 : ∀ u ∈ zv.cells.toList, u.oneCell' = true) (h0 : 0 ≤ n) (hown : Own sz e (.slice (some ⟨b, 0, none⟩) xs.length cap) xs [(b, .cells (xs.flatten ++ junk).toArray e (0, 0))]) (hp : PullC (b, .cells (xs.flatten ++ junk).toArray e (0, 0)) H R)
    (hroom : (xs.length + n.toNat) * i.bytes ≤ 140737488355328) (hcnt : xs.length + n.toNat ≤ 9223372036854775807)
    (t : ∀ v' X', Own sz e v' (xs ++ List.replicate n.toNat zv.cells.toList) X' → Then E N ((d, v') :: L) (X' ++ R) K) : Then E N L H (fun a w => o.wp P a w K Q) := fun a w hL hH => by
  subst hsz
  have hpos' : 0 < i.size := by have := Nat.le_of_ble_eq_true hpos; omega
  have hHp : Holds E ((b, .cells (xs.flatten ++ junk).toArray e (0, 0)) :: R) w := hH.perm hp.perm
  rcases hown with ⟨h, _⟩ | ⟨b1, cap1, junk1, hv, hX, hxl, hcap1, hlen, hmax⟩
  · cases h
  injection hv with hb1 _ hc1
  injection hb1 with hb1
  injection hb1 with hb1
  subst hb1; subst hc1
  have hj : junk = junk1 := by
    simp only [List.cons.injEq, Prod.mk.injEq, Obj.cells.injEq, and_true, true_and] at hX
    have := congrArg Array.toList hX
    simpa using this
  subst hj
  have hxf := flatten_length hxl
  have hzl : ∀ y ∈ List.replicate n.toNat zv.cells.toList, y.length = i.size := own_zeros _ (by simpa using hzs)
  have hzf : (List.replicate n.toNat zv.cells.toList).flatten.length = n.toNat * i.size := by rw [flatten_length hzl, List.length_replicate]
  have hall1 : ∀ u ∈ (List.replicate n.toNat zv.cells.toList).flatten, u.oneCell' = true := fun u hu => by
    obtain ⟨y, hy, hm⟩ := List.mem_flatten.1 hu
    rw [List.eq_of_mem_replicate hy] at hm
    exact hz1 u hm
  have hall : ∀ x ∈ xs ++ List.replicate n.toNat zv.cells.toList, x.length = i.size := fun x hx => (List.mem_append.1 hx).elim (hxl x) (hzl x)
  obtain ⟨m, rfl⟩ : ∃ m : Nat, n = m := ⟨n.toNat, by omega⟩
  simp only [Int.toNat_natCast] at *
  have hw : IntKind.i64.wrap (m : Int) = (m : Int) := wrap_i64 (by omega) (by omega)
  have hlow : ¬ ((m : Int) < 0) := by omega
  have hbig : ¬ (281474976710656 < (m : Int) * (i.bytes : Int)) := by
    have h1 : m * i.bytes ≤ (xs.length + m) * i.bytes := Nat.mul_le_mul_right _ (by omega)
    rw [show (m : Int) * (i.bytes : Int) = ((m * i.bytes : Nat) : Int) by push_cast; rfl]
    omega
  have hex := run_append_op2 (P := P) (w := w) (a := a) ho
  show o.upon P a K Q ((execOp a.eval o).run P w)
  rw [hex, hL.ev hx, hL.ev hy]
  have hm0 : m ≠ 0 → ¬ (m * i.size = 0) := fun h h2 => by rcases Nat.mul_eq_zero.1 h2 with h3 | h3 <;> omega
  by_cases hroomy : xs.length + m ≤ cap
  · have hst := run_storeCells_at P b (xs.length * i.size) e (List.replicate m zv.cells.toList).flatten 0 (xs.flatten ++ junk).toArray w (hHp.mem _ _ List.mem_cons_self) (by
      rw [List.size_toArray, hcap1, hzf, Nat.add_zero, ← Nat.add_mul]; exact Nat.mul_le_mul_right _ hroomy) hall1
    simp only [Nat.add_zero] at hst
    have hr : (Builtin.append_ #[T1, T2] o.type #[.slice (some ⟨b, 0, none⟩) xs.length cap, .int k (m : Int)]).run P w = .ok (.slice (some ⟨b, 0, none⟩) (xs.length + m) cap) (w.setRow b (List.take (xs.length * i.size) (xs.flatten ++ junk) ++ (List.replicate m zv.cells.toList).flatten ++ List.drop (xs.length * i.size + (List.replicate m zv.cells.toList).flatten.length) (xs.flatten ++ junk)).toArray) := by
      by_cases hm : m = 0
      · subst hm
        simp at hst
        simp at hroomy
        have hw0 : IntKind.i64.wrap 0 = 0 := wrap_i64 (by omega) (by omega)
        simp [hw0, Builtin.append_, run_underlying hu, run_underlying hu2, sizeOf, typeInfo, hi, asInt, asIntOf, hw, Addr.add_lit, hroomy, hst]
      · simp [Builtin.append_, run_underlying hu, run_underlying hu2, sizeOf, typeInfo, zeroValue, hi, hz, asInt, asIntOf, hw, hlow, hbig, hroomy, zeroCells_list, Addr.add_lit, hst]
        exact fun h => absurd h (hm0 hm)
    rw [hr]
    simp only [Result.andThen_ok, Oper.upon_value]
    rw [hd]
    have hH2 := Holds.setRow (H := R) (cs := (xs.flatten ++ junk).toArray) (by simpa using hHp) (List.take (xs.length * i.size) (xs.flatten ++ junk) ++ (List.replicate m zv.cells.toList).flatten ++ List.drop (xs.length * i.size + (List.replicate m zv.cells.toList).flatten.length) (xs.flatten ++ junk)).toArray
    have hcells : List.take (xs.length * i.size) (xs.flatten ++ junk) ++ (List.replicate m zv.cells.toList).flatten ++ List.drop (xs.length * i.size + (List.replicate m zv.cells.toList).flatten.length) (xs.flatten ++ junk) = (xs ++ List.replicate m zv.cells.toList).flatten ++ List.drop (m * i.size) junk := by
      simp only [List.flatten_append]
      rw [← hxf, List.take_left, ← List.drop_drop, List.drop_left, hzf]
    rw [hcells] at hH2 ⊢
    refine t _ _ (.inr ⟨b, cap, List.drop (m * i.size) junk, by simp, rfl, hall, ?_, by simpa using hroomy, hmax⟩) _ _ (hL.put hN _) (by simpa using hH2)
    have hjl : junk.length = cap * i.size - xs.length * i.size := by
      have := hcap1
      rw [List.length_append, hxf] at this
      omega
    rw [List.length_append, flatten_length hall, List.length_append, List.length_replicate, List.length_drop, hjl]
    have : (xs.length + m) * i.size ≤ cap * i.size := Nat.mul_le_mul_right _ hroomy
    rw [Nat.add_mul] at this ⊢
    omega
  · have hfit : ¬ (281474976710656 < Builtin.nextslicecap (xs.length + m) cap * i.bytes) := by have := growslice_fits (old := cap) (by omega) hroom; omega
    have h63 : ¬ (9223372036854775807 < (xs.length : Int) + (m : Int)) := by omega
    have hold : ∀ j u, xs.flatten[j]? = some u → w.drew.cell? ((⟨b, 0, none⟩ : Addr).add j) = some u := fun j u hj => by
      have hlt := (List.getElem?_eq_some_iff.1 hj).1
      rw [addr_add, hHp.drew.cell (b := b) List.mem_cons_self, Nat.zero_add, List.getElem?_toArray, List.getElem?_append_left hlt]
      exact hj
    have hfo := run_firstCells_some (P := P) w.drew i.size xs.length ⟨b, 0, none⟩ xs.length cap xs.flatten hxf hold
    have hr : (Builtin.append_ #[T1, T2] o.type #[.slice (some ⟨b, 0, none⟩) xs.length cap, .int k (m : Int)]).run P w = .ok (.slice (some ⟨w.heap.size, 0, none⟩) (xs.length + m) (grownCap w (xs.length + m) cap e))
        (w.drew.alloc (.cells (xs.flatten.toArray ++ (List.replicate m zv.cells.toList).flatten.toArray ++ Builtin.zeroCells zv.cells (grownCap w (xs.length + m) cap e - (xs.length + m))) e)) := by
      have hm : m ≠ 0 := by omega
      simp [Builtin.append_, run_underlying hu, run_underlying hu2, sizeOf, typeInfo, zeroValue, hi, hz, asInt, asIntOf, hw, hlow, hbig, hroomy, hfit, h63, Question.forced, hfo, newRow, grownCap, zeroCells_list]
      exact fun h => absurd h (hm0 hm)
    rw [hr]
    simp only [Result.andThen_ok, Oper.upon_value]
    rw [hd]
    have hge := grownCap_ge w (xs.length + m) cap e
    have hle := grownCap_le_maxLen w (xs.length + m) cap e (by simpa [maxLen] using hcnt)
    refine t _ _ (.inr ⟨w.heap.size, grownCap w (xs.length + m) cap e, (Builtin.zeroCells zv.cells (grownCap w (xs.length + m) cap e - (xs.length + m))).toList, by simp, rfl, hall, ?_, by simpa using hge, by simpa [maxLen] using hle⟩) _ _ (hL.put hN _) ?_
    · have hz2 : (Builtin.zeroCells zv.cells (grownCap w (xs.length + m) cap e - (xs.length + m))).toList.length = (grownCap w (xs.length + m) cap e - (xs.length + m)) * i.size := by rw [← hzs, ← size_zeroCells]; simp
      rw [List.length_append, flatten_length hall, List.length_append, List.length_replicate, hz2, ← Nat.add_mul]
      congr 1
      omega
    · have := (hHp.hs (.drop .all)).drew.alloc (.cells (xs.flatten.toArray ++ (List.replicate m zv.cells.toList).flatten.toArray ++ Builtin.zeroCells zv.cells (grownCap w (xs.length + m) cap e - (xs.length + m))) e)
      have e1 : ((xs ++ List.replicate m zv.cells.toList).flatten ++ (Builtin.zeroCells zv.cells (grownCap w (xs.length + m) cap e - (xs.length + m))).toList).toArray = xs.flatten.toArray ++ (List.replicate m zv.cells.toList).flatten.toArray ++ Builtin.zeroCells zv.cells (grownCap w (xs.length + m) cap e - (xs.length + m)) := by
        apply Array.ext'
        simp
      rw [e1]
      exact this

end Go.Sal
