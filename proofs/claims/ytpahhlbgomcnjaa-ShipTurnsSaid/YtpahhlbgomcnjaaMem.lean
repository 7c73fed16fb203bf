/- The rules for operations on memory: loads, addresses, slices, stores, new blocks, calls. -/
import Derived.Test.YtpahhlbgomcnjaaOps
import Derived.Laws.Tables
import Derived.Laws.CopyRow
namespace Go.Sal

variable {P : Program} {E : Env} {N : Nat} {L L' : List (Nat × Value)} {H H' : Heap} {K K' : Act → World → Prop} {Q : Exit → Act → World → Prop}
variable {ops : Array Oper} {rest : List Oper} {o : Oper} {d : Nat} {x y z : Operand}

/-- At offset 'off' of the row 'cs' stand the values 'xs'. -/
def At (cs : Array Value) (off : Nat) (xs : List Value) : Prop := ∀ j v, xs[j]? = some v → cs[off + j]? = some v

theorem At.self (xs : List Value) : At xs.toArray 0 xs := fun j v h => by simpa using h
theorem At.get {cs : Array Value} {off : Nat} {xs : List Value} (h : At cs off xs) {j : Nat} {v : Value} (hj : xs[j]? = some v) : cs[off + j]? = some v := h j v hj
theorem At.sub {cs : Array Value} {off : Nat} {xs ys : List Value} (h : At cs off xs) (k : Nat) (hs : (xs.drop k).take ys.length = ys) : At cs (off + k) ys := fun j v hj => by
  have hlt : j < ys.length := (List.getElem?_eq_some_iff.1 hj).1
  rw [← hs, List.getElem?_take, if_pos hlt, List.getElem?_drop] at hj
  have := h _ v hj
  rwa [← Nat.add_assoc] at this
theorem At.nil {cs : Array Value} {off : Nat} : At cs off [] := fun j v h => by simp at h

/-- A row of pieces of one size. -/
def Row (cs : Array Value) (off sz : Nat) (xs : List (List Value)) : Prop := ∀ i x, xs[i]? = some x → x.length = sz ∧ At cs (off + i * sz) x

theorem Row.at {cs : Array Value} {off sz : Nat} {xs : List (List Value)} (h : Row cs off sz xs) {i : Nat} {x : List Value} (hi : xs[i]? = some x) : At cs (off + i * sz) x := (h i x hi).2
theorem Row.elem {α : Type} {enc : α → List Value} {cs : Array Value} {off sz : Nat} {l : List α} (h : Row cs off sz (l.map enc)) {i : Nat} {x : α} (hi : l[i]? = some x) : At cs (off + i * sz) (enc x) :=
  h.at (by rw [List.getElem?_map, hi]; rfl)
theorem At.get0 {cs : Array Value} {off : Nat} {xs : List Value} (h : At cs off xs) {v : Value} (hj : xs[0]? = some v) : cs[off]? = some v := h 0 v hj
theorem getSome {α : Type} {l : List α} {i : Nat} (h : i < l.length) : ∃ x, l[i]? = some x := ⟨_, List.getElem?_eq_getElem h⟩

theorem baSome {s : ByteArray} {i : Nat} (h : i < s.size) : ∃ u, s[i]? = some u := ⟨_, getElem?_pos s i h⟩

/-! A part of memory that only grows: the data. -/
theorem ds_cons {D H : Heap} {q : Nat × Obj} (h : q ∈ H) (r : ∀ p, p ∈ D → p ∈ H) : ∀ p, p ∈ q :: D → p ∈ H := fun p hp => by
  rcases List.mem_cons.1 hp with rfl | hp
  · exact h
  · exact r p hp
theorem ds_app {X D H : Heap} (h : ∀ p, p ∈ X → p ∈ H) (r : ∀ p, p ∈ D → p ∈ H) : ∀ p, p ∈ X ++ D → p ∈ H := fun p hp => (List.mem_append.1 hp).elim (h p) (r p)
theorem ds_nil {H : Heap} : ∀ p, p ∈ ([] : Heap) → p ∈ H := fun p hp => by cases hp

/-- A slice value (a, n, c) whose elements, in the memory D, are l. -/
structure SliceAt {α : Type} (D : Heap) (enc : α → List Value) (sz : Nat) (a : Option Addr) (n c : Nat) (l : List α) : Prop where
  len : l.length = n
  cap : n ≤ c
  at_ : 0 < n → ∃ b off cs T fr, a = some ⟨b, off, none⟩ ∧ (b, Obj.cells cs T fr) ∈ D ∧ Row cs off sz (l.map enc)

theorem SliceAt.opn {α : Type} {D : Heap} {enc : α → List Value} {sz : Nat} {a : Option Addr} {n c : Nat} {l : List α} (h : SliceAt D enc sz a n c l) (h0 : 0 < n) :
    ∃ b off cs T fr, a = some ⟨b, off, none⟩ ∧ (b, Obj.cells cs T fr) ∈ D ∧ Row cs off sz (l.map enc) := h.at_ h0

theorem SliceAt.mono {α : Type} {D D' : Heap} {enc : α → List Value} {sz : Nat} {a : Option Addr} {n c : Nat} {l : List α} (h : SliceAt D enc sz a n c l) (hd : ∀ p, p ∈ D → p ∈ D') : SliceAt D' enc sz a n c l :=
  ⟨h.len, h.cap, fun h0 => let ⟨b, off, cs, T, fr, e, m, r⟩ := h.at_ h0; ⟨b, off, cs, T, fr, e, hd _ m, r⟩⟩

theorem SliceAt.nil {α : Type} {D : Heap} {enc : α → List Value} {sz : Nat} {a : Option Addr} {c : Nat} : SliceAt D enc sz a 0 c ([] : List α) := ⟨rfl, Nat.zero_le _, fun h => absurd h (Nat.lt_irrefl _)⟩

theorem Row.take {cs : Array Value} {off sz k : Nat} {xs : List (List Value)} (h : Row cs off sz xs) : Row cs off sz (xs.take k) := fun i x hi => by
  rw [List.getElem?_take] at hi
  split at hi
  · exact h i x hi
  · cases hi

theorem Row.drop {cs : Array Value} {off sz k : Nat} {xs : List (List Value)} (h : Row cs off sz xs) : Row cs (off + k * sz) sz (xs.drop k) := fun i x hi => by
  rw [List.getElem?_drop] at hi
  have := h _ x hi
  rw [Nat.add_mul, ← Nat.add_assoc] at this
  exact this

/-- s[:k], k at most the length. -/
theorem SliceAt.take {α : Type} {D : Heap} {enc : α → List Value} {sz : Nat} {a : Option Addr} {n c k c' : Nat} {l : List α} (h : SliceAt D enc sz a n c l) (hk : k ≤ n) (hc : k ≤ c') : SliceAt D enc sz a k c' (l.take k) :=
  ⟨by rw [List.length_take, h.len]; omega, hc, fun h0 => let ⟨b, off, cs, T, fr, e, m, r⟩ := h.at_ (by omega); ⟨b, off, cs, T, fr, e, m, by rw [List.map_take]; exact r.take⟩⟩

theorem Row.nil {cs : Array Value} {off sz : Nat} : Row cs off sz [] := fun i x h => by simp at h

/-! ### Loads -/

theorem run_load_some {w : World} {a : Addr} {v : Value} (h : w.cell? a = some v) (m : Mode) : (load a m).run P w = .ok v w := by simp [h]

theorem r_load {T : TypeId} {b off : Nat} {cs : Array Value} {U : TypeId} {fr : Nat × Nat} {v : Value} (ho : o.op = .load T x) (hT : ∀ w, (isAgg T).run P w = .ok false w)
    (hx : evL L x = some (.pointer (some ⟨b, off, none⟩))) (hb : (b, .cells cs U fr) ∈ H) (hc : cs[off]? = some v) : Run P E N L H o v := fun a w hL hH => by
  have hcell : w.cell? ⟨b, off, none⟩ = some v := (hH.cell hb off).trans hc
  simp only [execOp, ho, hL.ev hx, Instr.loadAt, Instr.sureAddr, Sem.run_bind, Sem.run_pure, Result.andThen_ok, loadVar, hT w]
  simp [hcell]

theorem addr_add (b off n : Nat) : (⟨b, off, none⟩ : Addr).add n = ⟨b, off + n, none⟩ := by
  unfold Addr.add
  split
  · rename_i h; subst h; rfl
  · rfl

theorem run_loadCells_at {w : World} (hH : Holds E H w) {b off : Nat} {cs : Array Value} {U : TypeId} {fr : Nat × Nat} (hb : (b, .cells cs U fr) ∈ H) {xs : List Value} (hc : At cs off xs) :
    (loadCells ⟨b, off, none⟩ xs.length).run P w = .ok xs.toArray w :=
  run_loadCells_list w _ xs fun j v hj => by rw [addr_add, hH.cell hb]; exact hc j v hj

theorem r_loadAgg {T : TypeId} {b off n : Nat} {cs : Array Value} {U : TypeId} {fr : Nat × Nat} {xs : List Value} (ho : o.op = .load T x) (hT : ∀ w, (isAgg T).run P w = .ok true w) (hs : ∀ w, (sizeOf T).run P w = .ok n w)
    (hx : evL L x = some (.pointer (some ⟨b, off, none⟩))) (hb : (b, .cells cs U fr) ∈ H) (hc : At cs off xs) (hn : xs.length = n) : Run P E N L H o (.agg xs.toArray) := fun a w hL hH => by
  subst hn
  simp only [execOp, ho, hL.ev hx, Instr.loadAt, Instr.sureAddr, Sem.run_bind, Sem.run_pure, Result.andThen_ok, loadVar, hT w, hs w, if_true, run_loadCells_at hH hb hc]

/-! ### Addresses -/

theorem r_fieldAddr {S b off : Nat} {f : Nat} {fs : Array Field} {fd : Field} {k n : Nat} (ho : o.op = .fieldAddr S x f) (hx : evL L x = some (.pointer (some ⟨b, off, none⟩)))
    (hu : P.underlying S = some (.struct fs)) (hf : fs[f]? = some fd) (hs : ∀ w, (sizeOf fd.type).run P w = .ok n w) (hz : Nat.beq n 0 = false) (hk : fd.offset = k) : Run P E N L H o (.pointer (some ⟨b, off + k, none⟩)) := fun a w hL _ => by
  have hz' : n ≠ 0 := Nat.ne_of_beq_eq_false hz
  simp [execOp, ho, hL.ev hx, Instr.fieldAt, Instr.sureAddr, underlying, hu, hf, fieldPlace, hs w, hz', addr_add, hk]

theorem r_indexAddr {T b off len cap : Nat} {ad : Option Addr} {k : IntKind} {i : Int} {e : TypeId} {n : Nat} (ho : o.op = .indexAddr T x y) (hx : evL L x = some (.slice ad len cap)) (had : ad = some ⟨b, off, none⟩) (hy : evL L y = some (.int k i))
    (hu : P.underlying T = some (.slice e)) (hs : ∀ w, (sizeOf e).run P w = .ok n w) (h0 : 0 ≤ i) (h1 : i < len) : Run P E N L H o (.pointer (some ⟨b, off + i.toNat * n, none⟩)) := fun a w hL _ => by
  subst had
  simp [execOp, ho, hL.ev hx, hL.ev hy, Instr.indexAt, asIntOf, underlying, hu, hs w, h0, h1, addr_add]

theorem r_indexAddrA {T b off len : Nat} {k : IntKind} {i : Int} {e : TypeId} {n : Nat} (ho : o.op = .indexAddr T x y) (hx : evL L x = some (.pointer (some ⟨b, off, none⟩))) (hy : evL L y = some (.int k i))
    (hu : P.underlying T = some (.array len e)) (hs : ∀ w, (sizeOf e).run P w = .ok n w) (h0 : 0 ≤ i) (h1 : i < len) : Run P E N L H o (.pointer (some ⟨b, off + i.toNat * n, none⟩)) := fun a w hL _ => by
  simp [execOp, ho, hL.ev hx, hL.ev hy, Instr.indexAt, Instr.sureAddr, asIntOf, underlying, hu, hs w, h0, h1, addr_add]

/-- A byte of a string. -/
theorem r_indexStr {T : TypeId} {s : ByteArray} {k : IntKind} {i : Int} {u : UInt8} (ho : o.op = .index T x y) (hx : evL L x = some (.string s)) (hy : evL L y = some (.int k i))
    (hu : P.underlying T = some .string) (h0 : 0 ≤ i) (hi : s[i.toNat]? = some u) : Run P E N L H o (.int .u8 u.toNat) := fun a w hL _ => by
  simp [execOp, ho, hL.ev hx, hL.ev hy, Instr.index, asIntOf, underlying, hu, h0, hi]

/-- A field of a struct, an element of an array, by value. -/
theorem r_field {S : TypeId} {f : Nat} {fs : Array Field} {fd : Field} {xs : List Value} {v : Value} (ho : o.op = .field S x f) (hx : evL L x = some (.agg xs.toArray)) (hu : P.underlying S = some (.struct fs)) (hf : fs[f]? = some fd)
    (ha : ∀ w, (isAgg fd.type).run P w = .ok false w) (hv : xs[fd.offset]? = some v) : Run P E N L H o v := fun a w hL _ => by
  simp [execOp, ho, hL.ev hx, Instr.field, underlying, hu, hf, part, asAgg, ha w, hv]

theorem r_fieldAgg {S : TypeId} {f : Nat} {fs : Array Field} {fd : Field} {xs ys : List Value} (ho : o.op = .field S x f) (hx : evL L x = some (.agg xs.toArray)) (hu : P.underlying S = some (.struct fs)) (hf : fs[f]? = some fd)
    (ha : ∀ w, (isAgg fd.type).run P w = .ok true w) (hs : ∀ w, (sizeOf fd.type).run P w = .ok ys.length w) (hv : (xs.drop fd.offset).take ys.length = ys) : Run P E N L H o (.agg ys.toArray) := fun a w hL _ => by
  have e : xs.toArray.extract fd.offset (fd.offset + ys.length) = ys.toArray := by
    apply Array.ext'
    simp only [Array.toList_extract]
    rw [List.extract_eq_take_drop, Nat.add_sub_cancel_left]
    exact hv
  simp [execOp, ho, hL.ev hx, Instr.field, underlying, hu, hf, part, asAgg, ha w, hs w]
  simpa using e

/-! ### Lengths, slices of slices -/

theorem r_len {T : TypeId} {e : TypeId} {ad : Option Addr} {n c : Nat} (ho : o.op = .call { callee := .builtin .len, args := #[x], argTypes := #[T] }) (hx : evL L x = some (.slice ad n c)) (hu : P.underlying T = some (.slice e)) :
    Run P E N L H o (.int .i64 n) := fun a w hL _ => by
  simp [execOp, ho, hL.ev hx, resolve, invoke, builtin, Builtin.len_, underlying, hu, goInt]

theorem r_lenStr {T : TypeId} {s : ByteArray} (ho : o.op = .call { callee := .builtin .len, args := #[x], argTypes := #[T] }) (hx : evL L x = some (.string s)) (hu : P.underlying T = some .string) :
    Run P E N L H o (.int .i64 s.size) := fun a w hL _ => by
  simp [execOp, ho, hL.ev hx, resolve, invoke, builtin, Builtin.len_, underlying, hu, goInt]

theorem r_lenMap {T k e : TypeId} {b : Nat} {es : Array MapEntry} {c : Nat} (ho : o.op = .call { callee := .builtin .len, args := #[x], argTypes := #[T] }) (hx : evL L x = some (.map (some b))) (hu : P.underlying T = some (.map k e)) (hb : (b, .map es c) ∈ H) :
    Run P E N L H o (.int .i64 es.size) := fun a w hL hH => by
  have hg : (getObj b).run P w = .ok (.map es c) w := by simp only [getObj, Sem.run, hH.mem _ _ hb]
  simp [execOp, ho, hL.ev hx, resolve, invoke, builtin, Builtin.len_, underlying, hu, goInt, hg]

theorem run_sliceBound_ok {w : World} {k : IntKind} {i : Int} {u : Nat} {c : BoundsCode} (h0 : 0 ≤ i) (h1 : i ≤ u) : (Instr.sliceBound (.int k i) u c).run P w = .ok i.toNat w := by
  simp [Instr.sliceBound, asIntOf, h0, h1]

/-- s[:h] -/
theorem r_sliceTo {T e : TypeId} {ad : Option Addr} {n c : Nat} {k : IntKind} {i : Int} {m : Nat} (ho : o.op = .slice T x none (some y) none) (hx : evL L x = some (.slice ad n c)) (hy : evL L y = some (.int k i))
    (hu : P.underlying T = some (.slice e)) (hs : ∀ w, (sizeOf e).run P w = .ok m w) (h0 : 0 ≤ i) (h1 : i ≤ c) : Run P E N L H o (.slice ad i.toNat c) := fun a w hL _ => by
  have hb := run_sliceBound_ok (P := P) (w := w) (k := k) (u := c) (c := .sliceAcap) h0 (by omega)
  have ha : (if c = 0 then ad else ad.map (·.add (0 * m))) = ad := by
    split
    · rfl
    · cases ad <;> simp [Addr.add]
  simp [execOp, ho, hL.ev hx, hL.ev hy, Instr.sliceAt, Instr.slice, underlying, hu, Instr.sliceBounds, hb, hs w]
  simpa using ha


/-- The address of s[l:..] at a capacity c. -/
def slAddr (ad : Option Addr) (c l m : Nat) : Option Addr := if c = l then ad else ad.map (·.add (l * m))

theorem slAddr_zero (ad : Option Addr) (c m : Nat) : slAddr ad c 0 m = ad := by
  unfold slAddr; split
  · rfl
  · cases ad <;> simp [Addr.add]

theorem slAddr_some {b off c l m : Nat} (h : l < c) : slAddr (some ⟨b, off, none⟩) c l m = some ⟨b, off + l * m, none⟩ := by
  unfold slAddr; rw [if_neg (by omega)]; simp [addr_add]

/-- s[l:] -/
theorem r_sliceFrom {T e : TypeId} {ad : Option Addr} {n c : Nat} {k : IntKind} {i : Int} {m : Nat} (ho : o.op = .slice T x (some y) none none) (hx : evL L x = some (.slice ad n c)) (hy : evL L y = some (.int k i))
    (hu : P.underlying T = some (.slice e)) (hs : ∀ w, (sizeOf e).run P w = .ok m w) (h0 : 0 ≤ i) (h1 : i ≤ n) : Run P E N L H o (.slice (slAddr ad c i.toNat m) (n - i.toNat) (c - i.toNat)) := fun a w hL _ => by
  have hb := run_sliceBound_ok (P := P) (w := w) (k := k) (u := n) (c := .sliceB) h0 (by omega)
  simp [execOp, ho, hL.ev hx, hL.ev hy, Instr.sliceAt, Instr.slice, underlying, hu, Instr.sliceBounds, hb, hs w, slAddr]

/-- s[l:h] -/
theorem r_slice {T e : TypeId} {ad : Option Addr} {n c : Nat} {k k' : IntKind} {i j : Int} {m : Nat} (ho : o.op = .slice T x (some y) (some z) none) (hx : evL L x = some (.slice ad n c)) (hy : evL L y = some (.int k i)) (hz : evL L z = some (.int k' j))
    (hu : P.underlying T = some (.slice e)) (hs : ∀ w, (sizeOf e).run P w = .ok m w) (h0 : 0 ≤ i) (h1 : i ≤ j) (h2 : j ≤ c) : Run P E N L H o (.slice (slAddr ad c i.toNat m) (j.toNat - i.toNat) (c - i.toNat)) := fun a w hL _ => by
  have hb := run_sliceBound_ok (P := P) (w := w) (k := k) (u := j.toNat) (c := .sliceB) h0 (by omega)
  have hb' := run_sliceBound_ok (P := P) (w := w) (k := k') (u := c) (c := .sliceAcap) (by omega : 0 ≤ j) (by omega)
  simp [execOp, ho, hL.ev hx, hL.ev hy, hL.ev hz, Instr.sliceAt, Instr.slice, underlying, hu, Instr.sliceBounds, hb, hb', hs w, slAddr]

/-- s[:h:m] -/
theorem r_slice3To {T e : TypeId} {ad : Option Addr} {n c : Nat} {k k' : IntKind} {i j : Int} {m : Nat} (ho : o.op = .slice T x none (some y) (some z)) (hx : evL L x = some (.slice ad n c)) (hy : evL L y = some (.int k i)) (hz : evL L z = some (.int k' j))
    (hu : P.underlying T = some (.slice e)) (hs : ∀ w, (sizeOf e).run P w = .ok m w) (h0 : 0 ≤ i) (h1 : i ≤ j) (h2 : j ≤ c) : Run P E N L H o (.slice ad i.toNat j.toNat) := fun a w hL _ => by
  have hb := run_sliceBound_ok (P := P) (w := w) (k := k) (u := j.toNat) (c := .slice3B) h0 (by omega)
  have hb' := run_sliceBound_ok (P := P) (w := w) (k := k') (u := c) (c := .slice3Acap) (by omega : 0 ≤ j) (by omega)
  have ha := slAddr_zero ad j.toNat m
  unfold slAddr at ha
  simp [execOp, ho, hL.ev hx, hL.ev hy, hL.ev hz, Instr.sliceAt, Instr.slice, underlying, hu, Instr.sliceBounds, hb, hb', hs w]
  simpa using ha

/-- s[l:h:m] -/
theorem r_slice3 {T e : TypeId} {ad : Option Addr} {n c : Nat} {k k' k'' : IntKind} {l i j : Int} {m : Nat} {u : Operand} (ho : o.op = .slice T x (some u) (some y) (some z)) (hx : evL L x = some (.slice ad n c)) (hl : evL L u = some (.int k'' l)) (hy : evL L y = some (.int k i)) (hz : evL L z = some (.int k' j))
    (hu : P.underlying T = some (.slice e)) (hs : ∀ w, (sizeOf e).run P w = .ok m w) (hl0 : 0 ≤ l) (h0 : l ≤ i) (h1 : i ≤ j) (h2 : j ≤ c) : Run P E N L H o (.slice (slAddr ad j.toNat l.toNat m) (i.toNat - l.toNat) (j.toNat - l.toNat)) := fun a w hL _ => by
  have hb := run_sliceBound_ok (P := P) (w := w) (k := k) (u := j.toNat) (c := .slice3B) (by omega : 0 ≤ i) (by omega)
  have hb' := run_sliceBound_ok (P := P) (w := w) (k := k') (u := c) (c := .slice3Acap) (by omega : 0 ≤ j) (by omega)
  have hb'' := run_sliceBound_ok (P := P) (w := w) (k := k'') (u := i.toNat) (c := .slice3C) hl0 (by omega)
  simp [execOp, ho, hL.ev hx, hL.ev hy, hL.ev hz, hL.ev hl, Instr.sliceAt, Instr.slice, underlying, hu, Instr.sliceBounds, hb, hb', hb'', hs w, slAddr]

/-- A string's s[l:h], s[:h], s[l:] -/
theorem r_strTo {T : TypeId} {s : ByteArray} {k : IntKind} {i : Int} (ho : o.op = .slice T x none (some y) none) (hx : evL L x = some (.string s)) (hy : evL L y = some (.int k i))
    (hu : P.underlying T = some .string) (h0 : 0 ≤ i) (h1 : i ≤ s.size) : Run P E N L H o (.string (s.extract 0 i.toNat)) := fun a w hL _ => by
  have hb := run_sliceBound_ok (P := P) (w := w) (k := k) (u := s.size) (c := .sliceAlen) h0 (by omega)
  simp [execOp, ho, hL.ev hx, hL.ev hy, Instr.sliceAt, Instr.slice, underlying, hu, Instr.sliceBounds, hb]
theorem r_strFrom {T : TypeId} {s : ByteArray} {k : IntKind} {i : Int} (ho : o.op = .slice T x (some y) none none) (hx : evL L x = some (.string s)) (hy : evL L y = some (.int k i))
    (hu : P.underlying T = some .string) (h0 : 0 ≤ i) (h1 : i ≤ s.size) : Run P E N L H o (.string (s.extract i.toNat s.size)) := fun a w hL _ => by
  have hb := run_sliceBound_ok (P := P) (w := w) (k := k) (u := s.size) (c := .sliceB) h0 (by omega)
  simp [execOp, ho, hL.ev hx, hL.ev hy, Instr.sliceAt, Instr.slice, underlying, hu, Instr.sliceBounds, hb]

/-- a[:], a an array in memory. -/
theorem r_arrAll {T e : TypeId} {b off n : Nat} {m : Nat} (ho : o.op = .slice T x none none none) (hx : evL L x = some (.pointer (some ⟨b, off, none⟩)))
    (hu : P.underlying T = some (.array n e)) (hs : ∀ w, (sizeOf e).run P w = .ok m w) : Run P E N L H o (.slice (some ⟨b, off, none⟩) n n) := fun a w hL _ => by
  have ha := slAddr_zero (some ⟨b, off, none⟩) n m
  unfold slAddr at ha
  simp [execOp, ho, hL.ev hx, Instr.sliceAt, Instr.sureAddr, underlying, hu, Instr.sliceBounds, hs w, Addr.add]

/-! ### A struct, an array put together -/

def evParts (L : List (Nat × Value)) : List (Nat × Operand) → Option (List (Nat × Value))
  | [] => some []
  | (i, x) :: r => match evL L x, evParts L r with
    | some v, some vs => some ((i, v) :: vs)
    | _, _ => none

theorem Sl.parts {a : Act} (h : Sl N L a) : ∀ {xs : List (Nat × Operand)} {vs : List (Nat × Value)}, evParts L xs = some vs → xs.map (fun p => (p.1, a.eval p.2)) = vs
  | [], vs, hx => by simp [evParts] at hx; simp [hx]
  | (i, x) :: r, vs, hx => by
    simp only [evParts] at hx
    split at hx
    · rename_i v us h1 h2
      injection hx with hx
      subst hx
      simp [h.ev h1, h.parts h2]
    · cases hx

theorem r_build {S : TypeId} {parts : List (Nat × Operand)} {vals : List (Nat × Value)} {cells : List Value} (ho : o.op = .build S parts.toArray) (hv : evParts L parts = some vals) (hf : P.built S vals = some cells.toArray) :
    Run P E N L H o (.agg cells.toArray) := fun a w hL _ => by
  have e : (parts.toArray.map fun p => (p.1, a.eval p.2)).toList = vals := by simpa using hL.parts hv
  have hb := run_build (P := P) w S (parts.toArray.map fun p => (p.1, a.eval p.2)) cells.toArray (by rw [e]; exact hf)
  simp only [execOp, ho, Sem.run_bind]
  rw [hb]
  rfl

/-! ### New blocks -/

theorem o_alloc {T : TypeId} {z : Value} {zs : List Value} (ho : o.op = .alloc T) (hd : o.dst = some d) (hN : Nat.blt d N = true) (hz : ∀ w, (zeroValue T).run P w = .ok z w) (hzs : z.cells = zs.toArray)
    (t : ∀ b, Then E N ((d, .pointer (some ⟨b, 0, none⟩)) :: L) ((b, .cells zs.toArray T (0, 0)) :: H) K) : Then E N L H (fun a w => o.wp P a w K Q) := fun a w hL hH => by
  have hr : (execOp a.eval o).run P w = .ok (.value (.pointer (some ⟨w.heap.size, 0, none⟩))) (w.alloc (.cells zs.toArray T)) := by
    simp only [execOp, ho, Instr.alloc, Sem.run_bind, hz w, Result.andThen_ok, newVar, newRow, run_newObj, Sem.run_pure, hzs]
    rfl
  show o.upon P a K Q ((execOp a.eval o).run P w)
  rw [hr, Oper.upon_value, hd]
  exact t _ _ _ (hL.put hN _) (hH.alloc _)

theorem o_box {T : TypeId} {v : Value} {vs : List Value} (ho : o.op = .box T x) (hd : o.dst = some d) (hN : Nat.blt d N = true) (hx : evL L x = some v) (hvs : v.cells = vs.toArray)
    (t : ∀ b, Then E N ((d, .pointer (some ⟨b, 0, none⟩)) :: L) ((b, .cells vs.toArray T (0, 0)) :: H) K) : Then E N L H (fun a w => o.wp P a w K Q) := fun a w hL hH => by
  have hr : (execOp a.eval o).run P w = .ok (.value (.pointer (some ⟨w.heap.size, 0, none⟩))) (w.alloc (.cells vs.toArray T)) := by
    simp only [execOp, ho, hL.ev hx, Instr.box, Sem.run_bind, Result.andThen_ok, newVar, newRow, run_newObj, Sem.run_pure, hvs]
    rfl
  show o.upon P a K Q ((execOp a.eval o).run P w)
  rw [hr, Oper.upon_value, hd]
  exact t _ _ _ (hL.put hN _) (hH.alloc _)

theorem zipIdx_fold (vs : List Value) : ∀ (k : Nat) (pre post : List Value) (old : List Value), old.length = vs.length → k = pre.length →
    (vs.zipIdx k).foldl (fun cs (p : Value × Nat) => cs.setIfInBounds p.2 p.1) (pre ++ old ++ post).toArray = (pre ++ vs ++ post).toArray := by
  induction vs with
  | nil => intro k pre post old h _; simp at h; subst h; simp
  | cons v vs ih =>
    intro k pre post old h hk
    cases old with
    | nil => simp at h
    | cons u old =>
      simp only [List.zipIdx_cons, List.foldl_cons]
      have e : (pre ++ (u :: old) ++ post).toArray.setIfInBounds k v = ((pre ++ [v]) ++ old ++ post).toArray := by
        subst hk
        simp
      rw [e, ih (k + 1) (pre ++ [v]) post old (by simpa using h) (by simp [hk])]
      simp

theorem fill_one {vs : List Value} {v : Value} (hv : v.cells = vs.toArray) (z : Array Value) (hz : z.size = vs.length) : Instr.fill (fun i => some (i * vs.length, vs.length)) z [(0, v)] = some vs.toArray := by
  simp only [Instr.fill, hv, Nat.zero_mul, Nat.zero_add, hz]
  simp only [ne_eq, not_true_eq_false, Nat.lt_irrefl, decide_false, Bool.or_self, Bool.false_eq_true, if_false, List.size_toArray, gt_iff_lt]
  have := zipIdx_fold vs 0 [] [] z.toList (by simpa using hz) rfl
  simp only [List.nil_append, List.append_nil, Array.toArray_toList] at this
  have e : vs.toArray.zipIdx = (vs.zipIdx 0).toArray := by simp
  rw [e, List.foldl_toArray]
  simpa using this

/-- []T{x} -/
theorem o_slice1 {T e : TypeId} {n : Nat} {zv v : Value} {vs : List Value} (ho : o.op = .buildSlice T 1 #[(0, x)]) (hd : o.dst = some d) (hN : Nat.blt d N = true) (hx : evL L x = some v) (hvs : v.cells = vs.toArray)
    (hu : P.underlying T = some (.slice e)) (hs : ∀ w, (sizeOf e).run P w = .ok n w) (hz : ∀ w, (zeroValue e).run P w = .ok zv w) (hzn : zv.cells.size = n) (hn : vs.length = n) (hn1 : n ≤ 16777216)
    (t : ∀ b, Then E N ((d, .slice (some ⟨b, 0, none⟩) 1 1) :: L) ((b, .cells vs.toArray e (0, 0)) :: H) K) : Then E N L H (fun a w => o.wp P a w K Q) := fun a w hL hH => by
  have hr : (execOp a.eval o).run P w = .ok (.value (.slice (some ⟨w.heap.size, 0, none⟩) 1 1)) (w.alloc (.cells vs.toArray e)) := by
    subst hn
    have hlim : ¬ (1 * vs.length > 2 ^ 24) := by omega
    by_cases h0 : vs.length = 0
    · have hv0 : vs = [] := List.eq_nil_of_length_eq_zero h0
      subst hv0
      have hf := fill_one (vs := []) hvs #[] rfl
      simp only [List.length_nil] at hf
      simp only [Nat.mul_zero] at hf
      simp [execOp, ho, hL.ev hx, Instr.buildSlice, underlying, hu, hs w, newRow]
      have e0 : Array.map (fun _ : Nat => (default : Value)) (Array.range 0) = #[] := by simp
      rw [e0, hf]
      rfl
    · have hf := fill_one hvs ((Array.range (1 * vs.length)).map (fun i => zv.cells[i % zv.cells.size]!)) (by simp)
      simp only [execOp, ho, Instr.buildSlice, Sem.run_bind, underlying, run_program, Result.andThen_ok, hu, Sem.run_pure, hs w, if_neg hlim]
      simp [hL.ev hx, h0, hz w, newRow]
      simp at hf
      rw [hf]
      simp
  show o.upon P a K Q ((execOp a.eval o).run P w)
  rw [hr, Oper.upon_value, hd]
  exact t _ _ _ (hL.put hN _) (hH.alloc _)

theorem o_makeMap {T : TypeId} (ho : o.op = .makeMap T none) (hd : o.dst = some d) (hN : Nat.blt d N = true)
    (t : ∀ b, Then E N ((d, .map (some b)) :: L) ((b, .map #[] 0) :: H) K) : Then E N L H (fun a w => o.wp P a w K Q) := fun a w hL hH => by
  have hr : (execOp a.eval o).run P w = .ok (.value (.map (some w.heap.size))) (w.alloc (.map #[] 0)) := by
    simp only [execOp, ho, Option.map_none, Instr.makeMap, Sem.run_bind, Result.andThen_ok, run_newObj, Sem.run_pure]
    rfl
  show o.upon P a K Q ((execOp a.eval o).run P w)
  rw [hr, Oper.upon_value, hd]
  exact t _ _ _ (hL.put hN _) (hH.alloc _)

/-! ### Stores -/

theorem cells_one {v : Value} (h : v.oneCell' = true) : v.cells = #[v] := by cases v <;> first | rfl | simp [Value.oneCell'] at h

theorem Holds.setRow {w : World} {b : Nat} {cs : Array Value} {T : TypeId} {fr : Nat × Nat} (h : Holds E ((b, .cells cs T fr) :: H) w) (cs' : Array Value) :
    Holds E ((b, .cells cs' T fr) :: H) (w.setRow b cs') :=
  h.setBlock rfl rfl (setRow_heap w b _ cs' _ _ (h.mem _ _ List.mem_cons_self)) (fun k hk _ => setRow_other w b k cs' hk)

theorem o_store {T b off : Nat} {cs : List Value} {U : TypeId} {v : Value} {R : Heap} (ho : o.op = .store T x y) (hd : o.dst = none) (hx : evL L x = some (.pointer (some ⟨b, off, none⟩))) (hy : evL L y = some v) (h1 : v.oneCell' = true)
    (hs : ∀ w, (sizeOf T).run P w = .ok 1 w) (hp : PullC (b, .cells cs.toArray U (0, 0)) H R) (hoff' : Nat.blt off cs.length = true) (t : Then E N L ((b, .cells (cs.set off v).toArray U (0, 0)) :: R) K) :
    Then E N L H (fun a w => o.wp P a w K Q) := fun a w hL hH => by
  have hoff : off < cs.length := by simpa using hoff'
  have hH1 : Holds E ((b, .cells cs.toArray U (0, 0)) :: R) w := hH.perm hp.perm
  have hc : w.cell? ⟨b, off, none⟩ = some cs[off] := by rw [hH1.cell List.mem_cons_self]; simp [hoff]
  have hf : w.frozen? ⟨b, off, none⟩ = false := by rw [hH1.frozen List.mem_cons_self]; simp
  have hst : (store (⟨b, off, none⟩ : Addr) v).run P w = .ok () (w.setCell ⟨b, off, none⟩ v) := by
    rw [run_store P w _ v _ h1, hc]; simp [hf]
  have hr : (execOp a.eval o).run P w = .ok .skip (w.setCell ⟨b, off, none⟩ v) := by
    simp [execOp, ho, hL.ev hx, hL.ev hy, Instr.storeAt, Instr.sureAddr, storeVar, cells_one h1, hs w, storeCells, Addr.add, hst]
  show o.upon P a K Q ((execOp a.eval o).run P w)
  rw [hr, Oper.upon_skip, hd]
  have := hH1.setCell off v
  rw [List.setIfInBounds_toArray] at this
  exact t _ _ hL this

/-- ys laid over cs from off on. -/
def over (cs : List Value) (off : Nat) (ys : List Value) : List Value := cs.take off ++ ys ++ cs.drop (off + ys.length)

theorem o_storeAgg {T b off : Nat} {cs ys : List Value} {U : TypeId} {R : Heap} (ho : o.op = .store T x y) (hd : o.dst = none) (hx : evL L x = some (.pointer (some ⟨b, off, none⟩))) (hy : evL L y = some (.agg ys.toArray)) (h1' : ys.all Value.oneCell' = true)
    (hs : ∀ w, (sizeOf T).run P w = .ok ys.length w) (hp : PullC (b, .cells cs.toArray U (0, 0)) H R) (hoff' : Nat.ble (off + ys.length) cs.length = true) (t : Then E N L ((b, .cells (over cs off ys).toArray U (0, 0)) :: R) K) :
    Then E N L H (fun a w => o.wp P a w K Q) := fun a w hL hH => by
  have h1 : ∀ v ∈ ys, v.oneCell' = true := by simpa using h1'
  have hoff : off + ys.length ≤ cs.length := by simpa using hoff'
  have hH1 : Holds E ((b, .cells cs.toArray U (0, 0)) :: R) w := hH.perm hp.perm
  have hst := run_storeCells_at P b off U ys 0 cs.toArray w (hH1.mem _ _ List.mem_cons_self) (by simpa using hoff) h1
  simp only [Nat.add_zero] at hst
  have hr : (execOp a.eval o).run P w = .ok .skip (w.setRow b (over cs off ys).toArray) := by
    simp only [execOp, ho, hL.ev hx, hL.ev hy, Instr.storeAt, Instr.sureAddr, storeVar, Value.cells, Sem.run_bind, Sem.run_pure, Result.andThen_ok, hs w, List.size_toArray, ne_eq, not_true_eq_false, if_false, hst]
    rfl
  show o.upon P a K Q ((execOp a.eval o).run P w)
  rw [hr, Oper.upon_skip, hd]
  exact t _ _ hL (hH1.setRow _)

/-! ### Calls -/

/-- A function's contract: from memory H it returns, and what it returns and leaves meets Post. -/
def Fn (P : Program) (f : FuncId) (args : List Value) (E : Env) (H : Heap) (Post : Value → Heap → Prop) : Prop :=
  ∀ w, Holds E H w → Calls P f args.toArray w fun e w' => ∃ v H', e = .returned v ∧ Post v H' ∧ Holds E H' w'

theorem Fn.mono {f : FuncId} {args : List Value} {Post Post' : Value → Heap → Prop} (h : Fn P f args E H Post) (hp : ∀ v H', Post v H' → Post' v H') : Fn P f args E H Post' :=
  fun w hH => (h w hH).mono fun _ _ ⟨v, H', he, q, hh⟩ => ⟨v, H', he, hp _ _ q, hh⟩

theorem Fn.frame {f : FuncId} {args : List Value} {Post : Value → Heap → Prop} (hs : HS H H') (h : Fn P f args E H' Post) : Fn P f args E H Post := fun w hH => h w (hH.hs hs)

theorem o_call {f : FuncId} {xs : List Operand} {vs : List Value} {ats : Array TypeId} {Post : Value → Heap → Prop} (ho : o.op = .call { callee := .value (.func f), args := xs.toArray, argTypes := ats }) (hd : o.dst = some d) (hN : Nat.blt d N = true)
    (hc : ∀ args w, (callFunc f args).run P w = .ok (.enter f args) w) (hx : evLs L xs = some vs) (hf : Fn P f vs E H Post) (t : ∀ v H', Post v H' → Then E N ((d, v) :: L) H' K) : Then E N L H (fun a w => o.wp P a w K Q) := fun a w hL hH => by
  have hr : (execOp a.eval o).run P w = .ok (.enter f vs.toArray) w := by
    have e : (#[] : Array Value) ++ xs.toArray.map a.eval ++ #[] = vs.toArray := by simp [hL.evs hx]
    have : execOp a.eval o = callFunc f (#[] ++ xs.toArray.map a.eval ++ #[]) := by
      obtain ⟨dst, op, type, pos, after, guard⟩ := o
      simp only at ho
      subst ho
      rfl
    rw [this, e]
    exact hc _ w
  show o.upon P a K Q ((execOp a.eval o).run P w)
  rw [hr, Oper.upon_enter]
  refine (hf w hH).mono fun e w' ⟨v, H', he, hp, hh⟩ => ?_
  subst he
  rw [hd]
  exact t v H' hp _ _ (hL.put hN _) hh

/-- A call of a function value. -/
theorem o_callv {f : FuncId} {k : Nat} {xs : List Operand} {vs fs cs : List Value} {ats : Array TypeId} {Post : Value → Heap → Prop} (ho : o.op = .call { callee := .value (.tmp k), args := xs.toArray, argTypes := ats }) (hd : o.dst = some d) (hN : Nat.blt d N = true)
    (hk : lk L k = some (.func (.func f) fs.toArray cs.toArray))
    (hc : ∀ args w, (callFunc f args).run P w = .ok (.enter f args) w) (hx : evLs L xs = some vs) (hf : Fn P f (fs ++ vs ++ cs) E H Post) (t : ∀ v H', Post v H' → Then E N ((d, v) :: L) H' K) : Then E N L H (fun a w => o.wp P a w K Q) := fun a w hL hH => by
  have hr : (execOp a.eval o).run P w = .ok (.enter f (fs ++ vs ++ cs).toArray) w := by
    have hk' : a.eval (.tmp k) = .func (.func f) fs.toArray cs.toArray := hL.ev (x := .tmp k) hk
    have e : fs.toArray ++ xs.toArray.map a.eval ++ cs.toArray = (fs ++ vs ++ cs).toArray := by simp [hL.evs hx]
    have : execOp a.eval o = (do let d ← resolve a.eval { callee := .value (.tmp k), args := xs.toArray, argTypes := ats } o.type; invoke d.target d.args) := by
      obtain ⟨dst, op, type, pos, after, guard⟩ := o
      simp only at ho
      subst ho
      rfl
    rw [this]
    simp only [resolve, hk', Deferred.ofValue, Sem.run_bind, Sem.run_pure, Result.andThen_ok, invoke]
    rw [e]
    exact hc _ w
  show o.upon P a K Q ((execOp a.eval o).run P w)
  rw [hr, Oper.upon_enter]
  refine (hf w hH).mono fun e w' ⟨v, H', he, hp, hh⟩ => ?_
  subst he
  rw [hd]
  exact t v H' hp _ _ (hL.put hN _) hh

def enumL : Nat → List Value → List (Nat × Value)
  | _, [] => []
  | i, v :: r => (i, v) :: enumL (i + 1) r

theorem lk_enumL : ∀ (vs : List Value) (i t : Nat) (v : Value), lk (enumL i vs) t = some v → i ≤ t ∧ vs[t - i]? = some v
  | [], i, t, v, h => by cases h
  | u :: r, i, t, v, h => by
    simp only [enumL] at h
    by_cases e : i = t
    · subst e
      rw [lk_cons_eq] at h
      exact ⟨Nat.le_refl _, by simpa using h⟩
    · rw [lk_cons_ne e] at h
      have := lk_enumL r (i + 1) t v h
      refine ⟨by omega, ?_⟩
      rw [show t - i = (t - (i + 1)) + 1 by omega, List.getElem?_cons_succ]
      exact this.2

/-- What the body's end owes. -/
def RP (E : Env) (Post : Value → Heap → Prop) (e : Ending) (w : World) : Prop := ∃ v H', e = .returned v ∧ Post v H' ∧ Holds E H' w

theorem Fn.of_body {f : FuncId} {fn : Func} {c : Code} {args : List Value} {Post : Value → Heap → Prop} (hf : P.funcs[f]? = some fn) (hb : fn.body = some c) (hN : fn.ntmps = N) (ha : Nat.ble args.length N = true)
    (t : Then E N (enumL 0 args) H (c.wp P (bodyPost P fn (RP E Post)))) : Fn P f args E H Post := fun w hH => by
  refine calls_of_wp hf hb ?_
  have hle : args.length ≤ N := by simpa using ha
  refine t _ _ ⟨?_, rfl, ?_⟩ hH
  · simp [hN]; omega
  · intro k v hk
    have := (lk_enumL args 0 k v hk).2
    rw [Nat.sub_zero] at this
    have hlt := (List.getElem?_eq_some_iff.1 this).1
    rw [Array.getElem?_append_left (by simpa using hlt)]
    simpa using this

theorem e_ret1 {fn : Func} {k : Nat} {v : Value} {Post : Value → Heap → Prop} (hr : fn.results = #[.tmp k]) (hv : lk L k = some v) (hp : Post v H) : Then E N L H (bodyPost P fn (RP E Post) .ret) := fun a w hL hH =>
  ⟨hL.defers, v, by rw [results_tmp hr]; simp [hL.mem _ _ hv], v, H, rfl, hp, hH⟩
theorem e_ret2 {fn : Func} {k l : Nat} {v u : Value} {Post : Value → Heap → Prop} (hr : fn.results = #[.tmp k, .tmp l]) (hv : lk L k = some v) (hu : lk L l = some u) (hp : Post (.tuple #[v, u]) H) : Then E N L H (bodyPost P fn (RP E Post) .ret) := fun a w hL hH =>
  ⟨hL.defers, .tuple #[v, u], by rw [results_tmp2 hr]; simp [hL.mem _ _ hv, hL.mem _ _ hu], _, H, rfl, hp, hH⟩
theorem e_ret3 {fn : Func} {k l m : Nat} {v u s : Value} {Post : Value → Heap → Prop} (hr : fn.results = #[.tmp k, .tmp l, .tmp m]) (hv : lk L k = some v) (hu : lk L l = some u) (hs : lk L m = some s) (hp : Post (.tuple #[v, u, s]) H) : Then E N L H (bodyPost P fn (RP E Post) .ret) := fun a w hL hH =>
  ⟨hL.defers, .tuple #[v, u, s], by simp [results, hr, hL.mem _ _ hv, hL.mem _ _ hu, hL.mem _ _ hs], _, H, rfl, hp, hH⟩
theorem e_ret4 {fn : Func} {k l m n : Nat} {v u s r : Value} {Post : Value → Heap → Prop} (hr : fn.results = #[.tmp k, .tmp l, .tmp m, .tmp n]) (hv : lk L k = some v) (hu : lk L l = some u) (hs : lk L m = some s) (hn : lk L n = some r) (hp : Post (.tuple #[v, u, s, r]) H) : Then E N L H (bodyPost P fn (RP E Post) .ret) := fun a w hL hH =>
  ⟨hL.defers, .tuple #[v, u, s, r], by simp [results, hr, hL.mem _ _ hv, hL.mem _ _ hu, hL.mem _ _ hs, hL.mem _ _ hn], _, H, rfl, hp, hH⟩
/-- No result: the end of the body. -/
theorem e_end {fn : Func} {Post : Value → Heap → Prop} (hr : fn.results = #[]) (hp : Post (.tuple #[]) H) : Then E N L H (bodyPost P fn (RP E Post) .normal) := fun a w hL hH =>
  ⟨hL.defers, .tuple #[], by simp [results, hr], _, H, rfl, hp, hH⟩
theorem e_ret0 {fn : Func} {Post : Value → Heap → Prop} (hr : fn.results = #[]) (hp : Post (.tuple #[]) H) : Then E N L H (bodyPost P fn (RP E Post) .ret) := fun a w hL hH =>
  ⟨hL.defers, .tuple #[], by simp [results, hr], _, H, rfl, hp, hH⟩

end Go.Sal
