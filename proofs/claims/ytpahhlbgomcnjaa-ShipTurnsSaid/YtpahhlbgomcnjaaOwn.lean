/- Rules for what grows by append, for regions that draw their order, for maps with keys that are strings. -/
import Derived.Test.YtpahhlbgomcnjaaMem
namespace Go.Sal

variable {P : Program} {E : Env} {N : Nat} {L L' : List (Nat × Value)} {H H' : Heap} {K K' : Act → World → Prop} {Q : Exit → Act → World → Prop}
variable {ops : Array Oper} {rest : List Oper} {o : Oper} {d : Nat} {x y z : Operand}

/-- The slice v, of the call's own, holds the pieces xs, and lies in the memory X. -/
def Own (sz : Nat) (T : TypeId) (v : Value) (xs : List (List Value)) (X : Heap) : Prop :=
  (v = .slice none 0 0 ∧ xs = [] ∧ X = []) ∨
  ∃ b cap junk, v = .slice (some ⟨b, 0, none⟩) xs.length cap ∧ X = [(b, .cells (xs.flatten ++ junk).toArray T (0, 0))] ∧ (∀ x ∈ xs, x.length = sz) ∧ (xs.flatten ++ junk).length = cap * sz ∧ xs.length ≤ cap ∧ cap ≤ 9223372036854775807

theorem Own.nil (sz : Nat) (T : TypeId) : Own sz T (.slice none 0 0) [] [] := .inl ⟨rfl, rfl, rfl⟩

theorem flatten_length {sz : Nat} : ∀ {xs : List (List Value)}, (∀ x ∈ xs, x.length = sz) → xs.flatten.length = xs.length * sz
  | [], _ => by simp
  | x :: r, h => by
    rw [List.flatten_cons, List.length_append, h x (by simp), flatten_length (fun y hy => h y (by simp [hy])), List.length_cons, Nat.add_mul]
    omega

theorem getElem?_flatten {sz : Nat} : ∀ {xs : List (List Value)}, (∀ x ∈ xs, x.length = sz) → ∀ (i : Nat) (x : List Value), xs[i]? = some x → ∀ j v, x[j]? = some v → xs.flatten[i * sz + j]? = some v
  | [], _, i, x, hi, _, _, _ => by simp at hi
  | y :: r, h, 0, x, hi, j, v, hj => by
    simp only [List.getElem?_cons_zero, Option.some.injEq] at hi
    subst hi
    have hlt := (List.getElem?_eq_some_iff.1 hj).1
    rw [List.flatten_cons, Nat.zero_mul, Nat.zero_add, List.getElem?_append_left hlt]
    exact hj
  | y :: r, h, i + 1, x, hi, j, v, hj => by
    rw [List.getElem?_cons_succ] at hi
    have hy := h y (by simp)
    rw [List.flatten_cons, List.getElem?_append_right (by rw [hy, Nat.add_mul]; omega), hy, show (i + 1) * sz + j - sz = i * sz + j by rw [Nat.add_mul]; omega]
    exact getElem?_flatten (fun y hy => h y (by simp [hy])) i x hi j v hj

/-- What an owned slice says of its cells. -/
theorem Own.row {sz : Nat} {T : TypeId} {v : Value} {xs : List (List Value)} {X : Heap} (h : Own sz T v xs X) :
    (v = .slice none 0 0 ∧ xs = [] ∧ X = []) ∨ ∃ b cap cs, v = .slice (some ⟨b, 0, none⟩) xs.length cap ∧ X = [(b, .cells cs T (0, 0))] ∧ Row cs 0 sz xs ∧ xs.length ≤ cap := by
  rcases h with h | ⟨b, cap, junk, hv, hX, hs, hl, hc, _⟩
  · exact .inl h
  · refine .inr ⟨b, cap, _, hv, hX, fun i x hi => ⟨hs x (List.mem_of_getElem? hi), fun j u hj => ?_⟩, hc⟩
    have := getElem?_flatten hs i x hi j u hj
    have hlt := (List.getElem?_eq_some_iff.1 this).1
    rw [Nat.zero_add, List.getElem?_toArray, List.getElem?_append_left hlt]
    exact this

theorem List.toArray_append_toArray (a b : List Value) : a.toArray ++ b.toArray = (a ++ b).toArray := by simp

theorem run_append_op {a : Act} {w : World} {T1 T2 : TypeId} (ho : o.op = .call { callee := .builtin .append, args := #[x, y], argTypes := #[T1, T2] }) :
    (execOp a.eval o).run P w = ((Builtin.append_ #[T1, T2] o.type #[a.eval x, a.eval y]).run P w).andThen fun v w' => .ok (.value v) w' := by
  simp only [execOp, ho, resolve, invoke, builtin, Sem.run_bind, Sem.run_pure, Result.andThen_ok, List.map_toArray, List.map_cons, List.map_nil]

/-- append(s, ys..): s is the call's own; the source's cells stand somewhere. -/
theorem o_append {T1 e : TypeId} {i : TypeInfo} {z : Value} {sz : Nat} {v : Value} {xs ys : List (List Value)} {X R : Heap} {b' off' m c' : Nat} {cs' : Array Value} {U : TypeId} {fr : Nat × Nat}
    (ho : o.op = .call { callee := .builtin .append, args := #[x, y], argTypes := #[T1, T1] }) (hd : o.dst = some d) (hN : Nat.blt d N = true) (hx : evL L x = some v) (hy : evL L y = some (.slice (some ⟨b', off', none⟩) m c'))
    (hu : P.underlying T1 = some (.slice e)) (hi : P.info? e = some i) (hz : i.zero = some z) (hsz : i.size = sz) (hzs : z.cells.size = sz) (hpos : Nat.ble 1 sz = true)
    (hown : Own sz e v xs X) (hp : Pull X H R) (hb : (b', .cells cs' U fr) ∈ H) (hc : At cs' off' ys.flatten) (hm : ys.length = m) (hl : ∀ y ∈ ys, y.length = sz) (h1 : ∀ y ∈ ys, ∀ u ∈ y, u.oneCell' = true)
    (hroom : (xs.length + ys.length) * i.bytes ≤ 140737488355328) (hcnt : xs.length + ys.length ≤ 9223372036854775807)
    (t : ∀ v' X', Own sz e v' (xs ++ ys) X' → Then E N ((d, v') :: L) (X' ++ R) K) : Then E N L H (fun a w => o.wp P a w K Q) := fun a w hL hH => by
  subst hm
  subst hsz
  have hHp : Holds E (X ++ R) w := hH.perm hp.perm
  have hfl : ys.flatten.length = ys.length * i.size := flatten_length hl
  have hnews : ∀ j u, ys.flatten[j]? = some u → w.cell? ((⟨b', off', none⟩ : Addr).add j) = some u := fun j u hj => by rw [addr_add, hH.cell hb]; exact hc j u hj
  have hex := run_append_op (P := P) (w := w) (a := a) ho
  have hnew1 : ∀ u ∈ ys.flatten, u.oneCell' = true := fun u hu => by
    obtain ⟨y, hy, huy⟩ := List.mem_flatten.1 hu
    exact h1 y hy u huy
  show o.upon P a K Q ((execOp a.eval o).run P w)
  rw [hex, hL.ev hx, hL.ev hy]
  -- a new row
  have hnewrow : ∀ (old : Nat) (olds : List Value), olds = xs.flatten → (∀ x ∈ xs, x.length = i.size) →
      Own i.size e (.slice (some ⟨w.heap.size, 0, none⟩) (xs.length + ys.length) (grownCap w (xs.length + ys.length) old e)) (xs ++ ys)
        [(w.heap.size, .cells (olds.toArray ++ ys.flatten.toArray ++ Builtin.zeroCells z.cells (grownCap w (xs.length + ys.length) old e - (xs.length + ys.length))) e)] := by
    intro old olds ho hxl
    subst ho
    have hge := grownCap_ge w (xs.length + ys.length) old e
    have hle := grownCap_le_maxLen w (xs.length + ys.length) old e (by simpa [maxLen] using hcnt)
    refine .inr ⟨w.heap.size, grownCap w (xs.length + ys.length) old e, (Builtin.zeroCells z.cells (grownCap w (xs.length + ys.length) old e - (xs.length + ys.length))).toList, by simp, ?_, ?_, ?_, by simpa using hge, by simpa [maxLen] using hle⟩
    · congr 2
      congr 1
      apply Array.ext'
      simp
    · intro x hx
      rcases List.mem_append.1 hx with hx | hx
      · exact hxl x hx
      · exact hl x hx
    · simp only [List.flatten_append, List.length_append, flatten_length hxl, hfl, Array.length_toList, size_zeroCells, hzs, ← Nat.add_mul]
      congr 1
      omega
  rcases hown with ⟨rfl, rfl, rfl⟩ | ⟨b, cap, junk, rfl, rfl, hxl, hcap, hlen, hmax⟩
  · by_cases h0 : ys.length = 0
    · have hy0 : ys = [] := List.eq_nil_of_length_eq_zero h0
      subst hy0
      have hr : (Builtin.append_ #[T1, T1] o.type #[.slice none 0 0, .slice (some ⟨b', off', none⟩) ([] : List (List Value)).length c']).run P w = .ok (.slice none 0 0) w := by
        simp [Builtin.append_, run_underlying hu, sizeOf, typeInfo, hi, Builtin.lenOf, Builtin.firstCells, loadCells, loadCellsFrom]
      rw [hr]
      simp only [Result.andThen_ok, Oper.upon_value]
      rw [hd]
      exact t _ [] (Own.nil _ _) _ _ (hL.put hN _) hHp
    · have hr := run_append_nil (P := P) w T1 o.type e i z hu hi hz ⟨b', off', none⟩ ys.length c' ys.flatten hfl hnews (by omega) (by omega) (by simp at hroom; omega)
      rw [hr]
      simp only [Result.andThen_ok, Oper.upon_value]
      rw [hd]
      have ho := hnewrow 0 [] rfl (by simp)
      simp only [List.length_nil, Nat.zero_add, List.nil_append] at ho
      refine t _ _ ho _ _ (hL.put hN _) ?_
      have := (hHp.drew.alloc (.cells (([] : List Value).toArray ++ ys.flatten.toArray ++ Builtin.zeroCells z.cells (grownCap w ys.length 0 e - ys.length)) e))
      simpa using this
  · have hblk : w.heap[b]? = some (.cells (xs.flatten ++ junk).toArray e (0, 0)) := hHp.mem _ _ (by simp)
    have hxf := flatten_length hxl
    by_cases hroomy : xs.length + ys.length ≤ cap
    · have hfit : xs.length * i.size + ys.flatten.length ≤ (xs.flatten ++ junk).toArray.size := by
        rw [List.size_toArray, hcap, hfl, ← Nat.add_mul]; exact Nat.mul_le_mul_right _ hroomy
      have hr := run_append_room (P := P) w T1 o.type e i hu hi b xs.length cap _ hblk ⟨b', off', none⟩ ys.length c' ys.flatten hfl hnews hnew1 hroomy hfit
      rw [hr]
      simp only [Result.andThen_ok, Oper.upon_value]
      rw [hd]
      have hH2 := Holds.setRow (H := R) (cs := (xs.flatten ++ junk).toArray) (by simpa using hHp) (List.take (xs.length * i.size) (xs.flatten ++ junk).toArray.toList ++ ys.flatten ++ List.drop (xs.length * i.size + ys.flatten.length) (xs.flatten ++ junk).toArray.toList).toArray
      have hcells : List.take (xs.length * i.size) (xs.flatten ++ junk).toArray.toList ++ ys.flatten ++ List.drop (xs.length * i.size + ys.flatten.length) (xs.flatten ++ junk).toArray.toList = (xs ++ ys).flatten ++ List.drop ys.flatten.length junk := by
        simp only [List.flatten_append]
        rw [← hxf, List.take_left, ← List.drop_drop, List.drop_left]
      rw [hcells] at hH2
      refine t _ _ (.inr ⟨b, cap, List.drop ys.flatten.length junk, by simp, rfl, ?_, ?_, by simpa using hroomy, hmax⟩) _ _ (hL.put hN _) (by rw [hcells]; simpa using hH2)
      · intro x hx
        rcases List.mem_append.1 hx with hx | hx
        · exact hxl x hx
        · exact hl x hx
      · have hjl : junk.length = cap * i.size - xs.length * i.size := by
          have := hcap
          rw [List.length_append, hxf] at this
          omega
        rw [List.flatten_append, List.length_append, List.length_append, hxf, List.length_drop, hjl, hfl]
        have : (xs.length + ys.length) * i.size ≤ cap * i.size := Nat.mul_le_mul_right _ hroomy
        rw [Nat.add_mul] at this
        omega
    · have holds : ∀ j u, xs.flatten[j]? = some u → w.cell? ((⟨b, 0, none⟩ : Addr).add j) = some u := fun j u hj => by
        have hlt := (List.getElem?_eq_some_iff.1 hj).1
        rw [addr_add, hHp.cell (b := b) (List.mem_append_left _ List.mem_cons_self), Nat.zero_add, List.getElem?_toArray, List.getElem?_append_left hlt]
        exact hj
      have hr := run_append_grow (P := P) w T1 o.type e i z hu hi hz ⟨b, 0, none⟩ xs.length cap xs.flatten hxf holds ⟨b', off', none⟩ ys.length c' ys.flatten hfl hnews (by omega) (by omega) (growslice_fits (by omega) hroom)
      rw [hr]
      simp only [Result.andThen_ok, Oper.upon_value]
      rw [hd]
      refine t _ _ (hnewrow cap xs.flatten rfl hxl) _ _ (hL.put hN _) ?_
      exact (hHp.hs (.dropS .all)).drew.alloc _

/-- append(s, nothing..): the source is nil. -/
theorem o_append_none {T1 e : TypeId} {i : TypeInfo} {v : Value} {sz : Nat} {xs : List (List Value)} {X : Heap}
    (ho : o.op = .call { callee := .builtin .append, args := #[x, y], argTypes := #[T1, T1] }) (hd : o.dst = some d) (hN : Nat.blt d N = true) (hx : evL L x = some v) (hy : evL L y = some (.slice none 0 0))
    (hu : P.underlying T1 = some (.slice e)) (hi : P.info? e = some i) (hown : Own sz e v xs X)
    (t : Then E N ((d, v) :: L) H K) : Then E N L H (fun a w => o.wp P a w K Q) := fun a w hL hH => by
  have hex := run_append_op (P := P) (w := w) (a := a) ho
  show o.upon P a K Q ((execOp a.eval o).run P w)
  rw [hex, hL.ev hx, hL.ev hy]
  rcases hown with ⟨rfl, rfl, rfl⟩ | ⟨b, cap, junk, rfl, rfl, hxl, hcap, hlen, hmax⟩
  · have hr : (Builtin.append_ #[T1, T1] o.type #[.slice none 0 0, .slice none 0 0]).run P w = .ok (.slice none 0 0) w := by
      simp [Builtin.append_, run_underlying hu, sizeOf, typeInfo, hi, Builtin.lenOf, Builtin.firstCells]
    rw [hr]
    simp only [Result.andThen_ok, Oper.upon_value]
    rw [hd]
    exact t _ _ (hL.put hN _) hH
  · have hr : (Builtin.append_ #[T1, T1] o.type #[.slice (some ⟨b, 0, none⟩) xs.length cap, .slice none 0 0]).run P w = .ok (.slice (some ⟨b, 0, none⟩) xs.length cap) w := by
      simp [Builtin.append_, run_underlying hu, sizeOf, typeInfo, hi, Builtin.lenOf, Builtin.firstCells, hlen, storeCells]
    rw [hr]
    simp only [Result.andThen_ok, Oper.upon_value]
    rw [hd]
    exact t _ _ (hL.put hN _) hH

/-! ### A region that draws its order -/

/-- From here whatever order is picked, and the memory S is kept. -/
abbrev Any (P : Program) (E : Env) (ops : Array Oper) (Q : Exit → Act → World → Prop) (S : Heap) (fuel : Nat) (listed : Array Bool) : Act → World → Prop :=
  wpAnyH P .any ops Q (Holds E S) fuel listed

theorem t_draw {id n : Nat} {S : Heap} (_ : HS H S) (hn : ops.size = n) (hm : P.follows .mixedOrders = true) (t : Then E N L H (Any P E ops Q S n (Array.replicate n false))) : Then E N L H ((Code.region id ops true).wp P Q) := by
  subst hn
  exact fun a w hL hH => wp_region_held hm (t a _ hL hH.drew)

/-- Number i yields its value as long as S is kept: it is taken first. -/
theorem a_take {S : Heap} {fuel : Nat} {listed : Array Bool} {i : Nat} {v : Value} (hi : ops[i]? = some o) (hd : o.dst = some d) (hN : Nat.blt d N = true) (hg : o.guard = none)
    (hs : Region.noSelect ops = true) (hf : Region.free .any ops listed i = true) (hr : (Region.ready .any ops listed).contains i = true)
    (hQ : ∀ c a w, Q (.panic c) (a.put o.dst v) w → Q (.panic c) a w) (hS : HS H S) (hv : Run P E N L S o v)
    (t : Then E N ((d, v) :: L) H (Any P E ops Q S fuel (listed.setIfInBounds i true))) : Then E N L H (Any P E ops Q S (fuel + 1) listed) := fun a w hL hH => by
  refine wpAnyH_take hi hs hf hr hQ (hv.yields hL (by simp [Region.wanted, hg])) (hH.hs hS) ?_
  rw [hd]
  exact t _ _ (hL.put hN _) hH

theorem a_takeg {S : Heap} {fuel : Nat} {listed : Array Bool} {i j dj : Nat} {b : Bool} {v : Value} (hi : ops[i]? = some o) (hd : o.dst = some d) (hN : Nat.blt d N = true) (hg : o.guard = some (j, b)) (hj : (ops[j]?).bind (·.dst) = some dj) (hb : lk L dj = some (.bool b))
    (hs : Region.noSelect ops = true) (hf : Region.free .any ops listed i = true) (hr : (Region.ready .any ops listed).contains i = true)
    (hQ : ∀ c a w, Q (.panic c) (a.put o.dst v) w → Q (.panic c) a w) (hS : HS H S) (hv : Run P E N L S o v)
    (t : Then E N ((d, v) :: L) H (Any P E ops Q S fuel (listed.setIfInBounds i true))) : Then E N L H (Any P E ops Q S (fuel + 1) listed) := fun a w hL hH => by
  refine wpAnyH_take hi hs hf hr hQ (hv.yields hL (by simp [Region.wanted, hg, yielded_of hL hj hb])) (hH.hs hS) ?_
  rw [hd]
  exact t _ _ (hL.put hN _) hH

/-- Number i is not wanted. -/
theorem a_skip {S : Heap} {fuel : Nat} {listed : Array Bool} {i j dj : Nat} {b b' : Bool} (hi : ops[i]? = some o) (hd : o.dst = some d) (hN : Nat.blt d N = true) (hg : o.guard = some (j, b)) (hj : (ops[j]?).bind (·.dst) = some dj) (hb : lk L dj = some (.bool b')) (hne : (b' == b) = false)
    (hs : Region.noSelect ops = true) (hf : Region.free .any ops listed i = true) (hr : (Region.ready .any ops listed).contains i = true)
    (hQ : ∀ c a w, Q (.panic c) (a.put o.dst undef) w → Q (.panic c) a w) (hS : HS H S)
    (t : Then E N ((d, undef) :: L) H (Any P E ops Q S fuel (listed.setIfInBounds i true))) : Then E N L H (Any P E ops Q S (fuel + 1) listed) := fun a w hL hH => by
  refine wpAnyH_take hi hs hf hr hQ (.inr ⟨?_, rfl⟩) (hH.hs hS) ?_
  · simp only [Region.wanted, hg, yielded_of hL hj hb]
    cases b <;> cases b' <;> simp_all
  · rw [hd]
    exact t _ _ (hL.put hN _) hH

/-- The same where a hypothesis tells the guard's Bool. -/
theorem a_takegh {S : Heap} {fuel : Nat} {listed : Array Bool} {i j dj : Nat} {b c : Bool} {v : Value} (hi : ops[i]? = some o) (hd : o.dst = some d) (hN : Nat.blt d N = true) (hg : o.guard = some (j, b)) (hj : (ops[j]?).bind (·.dst) = some dj) (hb : lk L dj = some (.bool c)) (hc : c = b)
    (hs : Region.noSelect ops = true) (hf : Region.free .any ops listed i = true) (hr : (Region.ready .any ops listed).contains i = true)
    (hQ : ∀ c a w, Q (.panic c) (a.put o.dst v) w → Q (.panic c) a w) (hS : HS H S) (hv : Run P E N L S o v)
    (t : Then E N ((d, v) :: L) H (Any P E ops Q S fuel (listed.setIfInBounds i true))) : Then E N L H (Any P E ops Q S (fuel + 1) listed) := by
  subst hc; exact a_takeg hi hd hN hg hj hb hs hf hr hQ hS hv t
theorem a_skiph {S : Heap} {fuel : Nat} {listed : Array Bool} {i j dj : Nat} {b c : Bool} (hi : ops[i]? = some o) (hd : o.dst = some d) (hN : Nat.blt d N = true) (hg : o.guard = some (j, b)) (hj : (ops[j]?).bind (·.dst) = some dj) (hb : lk L dj = some (.bool c)) (hc : c = !b)
    (hs : Region.noSelect ops = true) (hf : Region.free .any ops listed i = true) (hr : (Region.ready .any ops listed).contains i = true)
    (hQ : ∀ c a w, Q (.panic c) (a.put o.dst undef) w → Q (.panic c) a w) (hS : HS H S)
    (t : Then E N ((d, undef) :: L) H (Any P E ops Q S fuel (listed.setIfInBounds i true))) : Then E N L H (Any P E ops Q S (fuel + 1) listed) := by
  subst hc; exact a_skip hi hd hN hg hj hb (by cases b <;> rfl) hs hf hr hQ hS t

/-- One operation alone may come up: it is carried out. Behind it S is there still. -/
theorem a_one {S : Heap} {fuel : Nat} {listed : Array Bool} {i : Nat} (hi : ops[i]? = some o) (hg : o.guard = none) (hr : Region.ready .any ops listed = [i])
    (t : Then E N L H (fun a w => o.wp P a w (fun a' w' => Holds E S w' ∧ Any P E ops Q S fuel (listed.setIfInBounds i true) a' w') Q)) : Then E N L H (Any P E ops Q S (fuel + 1) listed) := fun a w hL hH => by
  refine wpAnyH_all hr (by simp) fun j hj => ?_
  simp only [List.mem_singleton] at hj
  subst hj
  unfold wpOp
  simp only [hi]
  rw [if_pos (by simp [Region.wanted, hg])]
  exact .inl (t a w hL hH)

theorem a_oneg {S : Heap} {fuel : Nat} {listed : Array Bool} {i j dj : Nat} {b : Bool} (hi : ops[i]? = some o) (hg : o.guard = some (j, b)) (hj : (ops[j]?).bind (·.dst) = some dj) (hb : lk L dj = some (.bool b)) (hr : Region.ready .any ops listed = [i])
    (t : Then E N L H (fun a w => o.wp P a w (fun a' w' => Holds E S w' ∧ Any P E ops Q S fuel (listed.setIfInBounds i true) a' w') Q)) : Then E N L H (Any P E ops Q S (fuel + 1) listed) := fun a w hL hH => by
  refine wpAnyH_all hr (by simp) fun k hk => ?_
  simp only [List.mem_singleton] at hk
  subst hk
  unfold wpOp
  simp only [hi]
  rw [if_pos (by simp [Region.wanted, hg, yielded_of hL hj hb])]
  exact .inl (t a w hL hH)

theorem a_onegh {S : Heap} {fuel : Nat} {listed : Array Bool} {i j dj : Nat} {b c : Bool} (hi : ops[i]? = some o) (hg : o.guard = some (j, b)) (hj : (ops[j]?).bind (·.dst) = some dj) (hb : lk L dj = some (.bool c)) (hc : c = b) (hr : Region.ready .any ops listed = [i])
    (t : Then E N L H (fun a w => o.wp P a w (fun a' w' => Holds E S w' ∧ Any P E ops Q S fuel (listed.setIfInBounds i true) a' w') Q)) : Then E N L H (Any P E ops Q S (fuel + 1) listed) := by
  subst hc; exact a_oneg hi hg hj hb hr t

/-- S is shown anew. -/
theorem a_keep {S : Heap} {fuel : Nat} {listed : Array Bool} (hS : HS H S) (t : Then E N L H (Any P E ops Q S fuel listed)) : Then E N L H (fun a' w' => Holds E S w' ∧ Any P E ops Q S fuel listed a' w') :=
  fun a w hL hH => ⟨hH.hs hS, t a w hL hH⟩

theorem a_done {S : Heap} {fuel : Nat} {listed : Array Bool} (hr : Region.ready .any ops listed = []) (t : Then E N L H (Q .normal)) : Then E N L H (Any P E ops Q S fuel listed) :=
  fun a w hL hH => wpAnyH_done hr (t a w hL hH) fuel

/-- A store whose cell only S's other blocks need not know. -/
theorem a_ops {S : Heap} {fuel : Nat} {listed : Array Bool} {rs : List Nat} (hr : Region.ready .any ops listed = rs) (hne : rs ≠ [])
    (t : ∀ i ∈ rs, Then E N L H (wpOp P ops Q i (fun a' w' => Holds E S w' ∧ Any P E ops Q S fuel (listed.setIfInBounds i true) a' w'))) : Then E N L H (Any P E ops Q S (fuel + 1) listed) :=
  fun a w hL hH => wpAnyH_all hr hne fun i hi => t i hi a w hL hH

end Go.Sal
