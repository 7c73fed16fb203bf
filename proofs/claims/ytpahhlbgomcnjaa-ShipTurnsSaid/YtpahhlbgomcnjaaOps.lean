/- The rules for single operations: each is proved once, over any program. -/
import Derived.Test.YtpahhlbgomcnjaaCore
import Derived.Laws.Strings
import Derived.Laws.Small
namespace Go.Sal

variable {P : Program} {E : Env} {N : Nat} {L L' : List (Nat × Value)} {H H' : Heap} {K K' : Act → World → Prop} {Q : Exit → Act → World → Prop}
variable {ops : Array Oper} {rest : List Oper} {o : Oper} {d : Nat}

/-! ### A region in the order of its text -/

theorem t_region {id : Nat} {l : List Oper} (t : Then E N L H (wpList P l.toArray Q l)) : Then E N L H ((Code.region id l.toArray false).wp P Q) :=
  fun a w hL hH => wp_region_lit (t a w hL hH)

theorem l_nil (t : Then E N L H (Q .normal)) : Then E N L H (wpList P ops Q []) := t

theorem l_op (hg : o.guard = none) (t : Then E N L H (fun a w => o.wp P a w (wpList P ops Q rest) Q)) : Then E N L H (wpList P ops Q (o :: rest)) := fun a w hL hH => by
  unfold wpList
  rw [if_pos (by simp [Region.wanted, hg])]
  exact .inl (t a w hL hH)

theorem yielded_of {a : Act} (hL : Sl N L a) {j dj : Nat} {b : Bool} (hj : (ops[j]?).bind (·.dst) = some dj) (hv : lk L dj = some (.bool b)) : yielded ops a.tmps j = some b := by
  simp [yielded, hj, hL.mem _ _ hv]

theorem l_yes {j dj : Nat} {b : Bool} (hg : o.guard = some (j, b)) (hj : (ops[j]?).bind (·.dst) = some dj) (hv : lk L dj = some (.bool b))
    (t : Then E N L H (fun a w => o.wp P a w (wpList P ops Q rest) Q)) : Then E N L H (wpList P ops Q (o :: rest)) := fun a w hL hH => by
  unfold wpList
  rw [if_pos (by simp [Region.wanted, hg, yielded_of hL hj hv])]
  exact .inl (t a w hL hH)

theorem l_no {j dj : Nat} {b b' : Bool} (hg : o.guard = some (j, b)) (hj : (ops[j]?).bind (·.dst) = some dj) (hv : lk L dj = some (.bool b')) (hne : (b' == b) = false) (hd : o.dst = some d) (hN : Nat.blt d N = true)
    (t : Then E N ((d, undef) :: L) H (wpList P ops Q rest)) : Then E N L H (wpList P ops Q (o :: rest)) := fun a w hL hH => by
  unfold wpList
  rw [if_neg (by simp only [Region.wanted, hg, yielded_of hL hj hv]; intro h; cases b <;> cases b' <;> simp_all)]
  rw [hd]
  exact t _ _ (hL.put hN _) hH

theorem l_no0 {j dj : Nat} {b b' : Bool} (hg : o.guard = some (j, b)) (hj : (ops[j]?).bind (·.dst) = some dj) (hv : lk L dj = some (.bool b')) (hne : (b' == b) = false) (hd : o.dst = none)
    (t : Then E N L H (wpList P ops Q rest)) : Then E N L H (wpList P ops Q (o :: rest)) := fun a w hL hH => by
  unfold wpList
  rw [if_neg (by simp only [Region.wanted, hg, yielded_of hL hj hv]; intro h; cases b <;> cases b' <;> simp_all)]
  rw [hd]
  exact t _ _ hL hH

/-- A guard whose Bool is not known: both. -/
theorem l_ask {j dj : Nat} {b : Bool} {c : Bool} (hg : o.guard = some (j, b)) (hj : (ops[j]?).bind (·.dst) = some dj) (hv : lk L dj = some (.bool c)) (hd : o.dst = some d) (hN : Nat.blt d N = true)
    (t : c = b → Then E N L H (fun a w => o.wp P a w (wpList P ops Q rest) Q)) (f : (c == b) = false → Then E N ((d, undef) :: L) H (wpList P ops Q rest)) :
    Then E N L H (wpList P ops Q (o :: rest)) := by
  by_cases e : c = b
  · subst e; exact l_yes hg hj hv (t rfl)
  · exact l_no hg hj hv (by simpa using e) hd hN (f (by simpa using e))

/-- The same where the guard's Bool is open, and a hypothesis tells it. -/
theorem l_yesh {j dj : Nat} {b c : Bool} (hg : o.guard = some (j, b)) (hj : (ops[j]?).bind (·.dst) = some dj) (hv : lk L dj = some (.bool c)) (hc : c = b)
    (t : Then E N L H (fun a w => o.wp P a w (wpList P ops Q rest) Q)) : Then E N L H (wpList P ops Q (o :: rest)) := by
  subst hc; exact l_yes hg hj hv t

theorem l_noh {j dj : Nat} {b c : Bool} (hg : o.guard = some (j, b)) (hj : (ops[j]?).bind (·.dst) = some dj) (hv : lk L dj = some (.bool c)) (hc : c = !b) (hd : o.dst = some d) (hN : Nat.blt d N = true)
    (t : Then E N ((d, undef) :: L) H (wpList P ops Q rest)) : Then E N L H (wpList P ops Q (o :: rest)) := by
  subst hc; exact l_no hg hj hv (by cases b <;> rfl) hd hN t

theorem l_noh0 {j dj : Nat} {b c : Bool} (hg : o.guard = some (j, b)) (hj : (ops[j]?).bind (·.dst) = some dj) (hv : lk L dj = some (.bool c)) (hc : c = !b) (hd : o.dst = none)
    (t : Then E N L H (wpList P ops Q rest)) : Then E N L H (wpList P ops Q (o :: rest)) := by
  subst hc; exact l_no0 hg hj hv (by cases b <;> rfl) hd t

theorem t_bool (c : Bool) (t : c = true → Then E N L H K) (f : c = false → Then E N L H K) : Then E N L H K := by
  cases h : c
  · exact f h
  · exact t h

/-! ### Operations that yield a value and leave the world alone -/

def Run (P : Program) (E : Env) (N : Nat) (L : List (Nat × Value)) (H : Heap) (o : Oper) (v : Value) : Prop :=
  ∀ a w, Sl N L a → Holds E H w → (execOp a.eval o).run P w = .ok (.value v) w

theorem o_val {v : Value} (hd : o.dst = some d) (hN : Nat.blt d N = true) (hr : Run P E N L H o v) (t : Then E N ((d, v) :: L) H K) :
    Then E N L H (fun a w => o.wp P a w K Q) := fun a w hL hH => by
  show o.upon P a K Q ((execOp a.eval o).run P w)
  rw [hr a w hL hH, Oper.upon_value, hd]
  exact t _ _ (hL.put hN _) hH

/-- A drawn order: taken first. -/
theorem Run.yields {v : Value} {a : Act} (hr : Run P E N L H o v) (hL : Sl N L a) (hg : Region.wanted o (yielded ops a.tmps) = true) : YieldsIf P ops (Holds E H) o v a :=
  .inl ⟨hg, fun w hw => hr a w hL hw⟩

variable {x y z : Operand}

theorem r_move {v : Value} (ho : o.op = .move x) (hx : evL L x = some v) : Run P E N L H o v := fun a w hL _ => by simp [execOp, ho, hL.ev hx]
theorem r_assign {v : Value} (ho : o.op = .assign x) (hx : evL L x = some v) : Run P E N L H o v := fun a w hL _ => by simp [execOp, ho, hL.ev hx]
theorem r_pick {c : Bool} {u v : Value} (ho : o.op = .pick x y z) (hx : evL L x = some (.bool c)) (hy : evL L y = some u) (hz : evL L z = some v) :
    Run P E N L H o (if c then u else v) := fun a w hL _ => by simp [execOp, ho, hL.ev hx, hL.ev hy, hL.ev hz, asBool]
theorem r_pickt {u : Value} (ho : o.op = .pick x y z) (hx : evL L x = some (.bool true)) (hy : evL L y = some u) :
    Run P E N L H o u := fun a w hL _ => by simp [execOp, ho, hL.ev hx, hL.ev hy, asBool]
theorem r_pickf {v : Value} (ho : o.op = .pick x y z) (hx : evL L x = some (.bool false)) (hz : evL L z = some v) :
    Run P E N L H o v := fun a w hL _ => by simp [execOp, ho, hL.ev hx, hL.ev hz, asBool]
theorem r_pickth {c : Bool} {u : Value} (ho : o.op = .pick x y z) (hx : evL L x = some (.bool c)) (hc : c = true) (hy : evL L y = some u) :
    Run P E N L H o u := by subst hc; exact r_pickt ho hx hy
theorem r_pickfh {c : Bool} {v : Value} (ho : o.op = .pick x y z) (hx : evL L x = some (.bool c)) (hc : c = false) (hz : evL L z = some v) :
    Run P E N L H o v := by subst hc; exact r_pickf ho hx hz
/-- a || b, a && b. -/
theorem r_or {c : Bool} {v : Bool} (ho : o.op = .pick x y z) (hx : evL L x = some (.bool c)) (hy : evL L y = some (.bool true)) (hz : c = false → evL L z = some (.bool v)) :
    Run P E N L H o (.bool (c || v)) := fun a w hL _ => by
  cases c
  · simp [execOp, ho, hL.ev hx, hL.ev (hz rfl), asBool]
  · simp [execOp, ho, hL.ev hx, hL.ev hy, asBool]

theorem r_extract {vs : Array Value} {i : Nat} {v : Value} (ho : o.op = .extract x i) (hx : evL L x = some (.tuple vs)) (hi : vs[i]? = some v) : Run P E N L H o v := fun a w hL _ => by
  simp [execOp, ho, hL.ev hx, Instr.extract, hi]

theorem r_not {b : Bool} {T : TypeId} (ho : o.op = .unOp .not T x) (hx : evL L x = some (.bool b)) : Run P E N L H o (.bool (!b)) := fun a w hL _ => by
  simp [execOp, ho, hL.ev hx, Op.unary]
theorem r_notdec {p : Prop} [Decidable p] {T : TypeId} (ho : o.op = .unOp .not T x) (hx : evL L x = some (.bool (decide p))) : Run P E N L H o (.bool (decide (¬ p))) := fun a w hL _ => by
  simp [execOp, ho, hL.ev hx, Op.unary]

theorem r_nilCheck {a' : Addr} (ho : o.op = .nilCheck x) (hx : evL L x = some (.pointer (some a'))) : Run P E N L H o (.pointer (some a')) := fun a w hL _ => by
  simp [execOp, ho, hL.ev hx]

theorem r_makeFunc {fn : Fn} {fs cs : List Operand} {us vs : List Value} (ho : o.op = .makeFunc fn fs.toArray cs.toArray) (hf : evLs L fs = some us) (hc : evLs L cs = some vs) :
    Run P E N L H o (.func fn us.toArray vs.toArray) := fun a w hL _ => by
  simp [execOp, ho, Instr.makeFunc, hL.evs hf, hL.evs hc]

/-! #### Integers -/
section ints
variable {k : IntKind} {m n : Int} {T T' : TypeId}

theorem r_addw (ho : o.op = .binOp .add T x y T') (hx : evL L x = some (.int k m)) (hy : evL L y = some (.int k n)) : Run P E N L H o (.int k (k.wrap (m + n))) := fun a w hL _ => by
  simp [execOp, ho, hL.ev hx, hL.ev hy, eqGuard, binOp, Op.intArith]
theorem r_subw (ho : o.op = .binOp .sub T x y T') (hx : evL L x = some (.int k m)) (hy : evL L y = some (.int k n)) : Run P E N L H o (.int k (k.wrap (m - n))) := fun a w hL _ => by
  simp [execOp, ho, hL.ev hx, hL.ev hy, eqGuard, binOp, Op.intArith]
theorem r_mulw (ho : o.op = .binOp .mul T x y T') (hx : evL L x = some (.int k m)) (hy : evL L y = some (.int k n)) : Run P E N L H o (.int k (k.wrap (m * n))) := fun a w hL _ => by
  simp [execOp, ho, hL.ev hx, hL.ev hy, eqGuard, binOp, Op.intArith]

theorem wrap_i64 (h1 : -9223372036854775808 ≤ m) (h2 : m ≤ 9223372036854775807) : IntKind.i64.wrap m = m := by
  simp only [IntKind.wrap, IntKind.bits, IntKind.signed]
  simp
  omega
theorem wrap_u64 (h1 : 0 ≤ m) (h2 : m ≤ 18446744073709551615) : IntKind.u64.wrap m = m := by
  simp only [IntKind.wrap, IntKind.bits, IntKind.signed]
  simp
  omega
theorem wrap_u8 (h1 : 0 ≤ m) (h2 : m ≤ 255) : IntKind.u8.wrap m = m := by
  simp only [IntKind.wrap, IntKind.bits, IntKind.signed]
  simp
  omega

theorem r_add (ho : o.op = .binOp .add T x y T') (hx : evL L x = some (.int .i64 m)) (hy : evL L y = some (.int .i64 n)) (h1 : -9223372036854775808 ≤ m + n) (h2 : m + n ≤ 9223372036854775807) :
    Run P E N L H o (.int .i64 (m + n)) := by
  have := r_addw (P := P) (E := E) (N := N) (H := H) ho hx hy; rwa [wrap_i64 h1 h2] at this
theorem r_sub (ho : o.op = .binOp .sub T x y T') (hx : evL L x = some (.int .i64 m)) (hy : evL L y = some (.int .i64 n)) (h1 : -9223372036854775808 ≤ m - n) (h2 : m - n ≤ 9223372036854775807) :
    Run P E N L H o (.int .i64 (m - n)) := by
  have := r_subw (P := P) (E := E) (N := N) (H := H) ho hx hy; rwa [wrap_i64 h1 h2] at this
theorem r_mul (ho : o.op = .binOp .mul T x y T') (hx : evL L x = some (.int .i64 m)) (hy : evL L y = some (.int .i64 n)) (h1 : -9223372036854775808 ≤ m * n) (h2 : m * n ≤ 9223372036854775807) :
    Run P E N L H o (.int .i64 (m * n)) := by
  have := r_mulw (P := P) (E := E) (N := N) (H := H) ho hx hy; rwa [wrap_i64 h1 h2] at this

theorem r_quo (ho : o.op = .binOp .quo T x y T') (hx : evL L x = some (.int .i64 m)) (hy : evL L y = some (.int .i64 n)) (h0 : 0 ≤ m) (hn : 0 < n) (h2 : m ≤ 9223372036854775807) :
    Run P E N L H o (.int .i64 (m / n)) := fun a w hL _ => by
  have hne : n ≠ 0 := by omega
  have hd : m.tdiv n = m / n := Int.tdiv_eq_ediv_of_nonneg h0
  have h3 : 0 ≤ m / n := Int.ediv_nonneg h0 (by omega)
  have h4 : m / n ≤ m := Int.ediv_le_self _ h0
  simp [execOp, ho, hL.ev hx, hL.ev hy, eqGuard, binOp, Op.intDiv, hne, hd, wrap_i64 (m := m / n) (by omega) (by omega)]
theorem r_rem (ho : o.op = .binOp .rem T x y T') (hx : evL L x = some (.int k m)) (hy : evL L y = some (.int k n)) (h0 : 0 ≤ m) (hn : n ≠ 0) :
    Run P E N L H o (.int k (m % n)) := fun a w hL _ => by
  have hd : m.tmod n = m % n := Int.tmod_eq_emod_of_nonneg h0
  simp [execOp, ho, hL.ev hx, hL.ev hy, eqGuard, binOp, Op.intDiv, hn, hd]

theorem r_min {T1 T2 : TypeId} (ho : o.op = .call { callee := .builtin .min, args := #[x, y], argTypes := #[T1, T2] }) (hx : evL L x = some (.int k m)) (hy : evL L y = some (.int k n)) : Run P E N L H o (.int k (min m n)) := fun a w hL _ => by
  have e : (if n < m then n else m) = min m n := by omega
  simp [execOp, ho, hL.ev hx, hL.ev hy, resolve, invoke, builtin, Builtin.min_, Builtin.min2, e]
theorem r_max {T1 T2 : TypeId} (ho : o.op = .call { callee := .builtin .max, args := #[x, y], argTypes := #[T1, T2] }) (hx : evL L x = some (.int k m)) (hy : evL L y = some (.int k n)) : Run P E N L H o (.int k (max m n)) := fun a w hL _ => by
  have e : (if n > m then n else m) = max m n := by omega
  simp [execOp, ho, hL.ev hx, hL.ev hy, resolve, invoke, builtin, Builtin.max_, Builtin.max2, e]

theorem r_lt (ho : o.op = .binOp .lss T x y T') (hx : evL L x = some (.int k m)) (hy : evL L y = some (.int k n)) : Run P E N L H o (.bool (decide (m < n))) := fun a w hL _ => by
  simp [execOp, ho, hL.ev hx, hL.ev hy, eqGuard, binOp, Op.intCmp]
theorem r_le (ho : o.op = .binOp .leq T x y T') (hx : evL L x = some (.int k m)) (hy : evL L y = some (.int k n)) : Run P E N L H o (.bool (decide (m ≤ n))) := fun a w hL _ => by
  simp [execOp, ho, hL.ev hx, hL.ev hy, eqGuard, binOp, Op.intCmp]
theorem r_gt (ho : o.op = .binOp .gtr T x y T') (hx : evL L x = some (.int k m)) (hy : evL L y = some (.int k n)) : Run P E N L H o (.bool (decide (m > n))) := fun a w hL _ => by
  simp [execOp, ho, hL.ev hx, hL.ev hy, eqGuard, binOp, Op.intCmp]
theorem r_ge (ho : o.op = .binOp .geq T x y T') (hx : evL L x = some (.int k m)) (hy : evL L y = some (.int k n)) : Run P E N L H o (.bool (decide (m ≥ n))) := fun a w hL _ => by
  simp [execOp, ho, hL.ev hx, hL.ev hy, eqGuard, binOp, Op.intCmp]
theorem r_eq (ho : o.op = .binOp .eql T x y T') (hx : evL L x = some (.int k m)) (hy : evL L y = some (.int k n)) : Run P E N L H o (.bool (decide (m = n))) := fun a w hL _ => by
  simp only [execOp, ho, hL.ev hx, hL.ev hy, eqGuard, binOp, Op.intCmp]
  simp
  rfl
theorem r_ne (ho : o.op = .binOp .neq T x y T') (hx : evL L x = some (.int k m)) (hy : evL L y = some (.int k n)) : Run P E N L H o (.bool (decide (m ≠ n))) := fun a w hL _ => by
  simp only [execOp, ho, hL.ev hx, hL.ev hy, eqGuard, binOp, Op.intCmp]
  simp
  rfl

theorem r_conv {k' : IntKind} {S : TypeId} {D : TypeDesc} (ho : o.op = .convert S T x) (hx : evL L x = some (.int k m)) (hs : P.underlying S = some D) (ht : P.underlying T = some (.int k')) : Run P E N L H o (.int k' (k'.wrap m)) := fun a w hL _ => by
  simp [execOp, ho, hL.ev hx, convert, underlying, hs, ht, Conv.intToInt]
theorem r_convId {S : TypeId} {D : TypeDesc} (ho : o.op = .convert S T x) (hx : evL L x = some (.int .i64 m)) (hs : P.underlying S = some D) (ht : P.underlying T = some (.int .i64)) (h1 : -9223372036854775808 ≤ m) (h2 : m ≤ 9223372036854775807) : Run P E N L H o (.int .i64 m) := by
  have := r_conv (P := P) (E := E) (N := N) (H := H) ho hx hs ht; rwa [wrap_i64 h1 h2] at this
end ints

/-! #### Strings -/
section strings
variable {s t : ByteArray} {T T' : TypeId}

theorem beq_toList (s t : ByteArray) : (s.toList == t.toList) = decide (s = t) := by
  by_cases h : s = t
  · subst h; simp
  · have : s.toList ≠ t.toList := fun e => h (by
      rw [ByteArray.toList_eq, ByteArray.toList_eq] at e
      cases s; cases t
      simp only [ByteArray.mk.injEq]
      exact Array.ext' e)
    simp [h, this]

theorem r_seq (ho : o.op = .binOp .eql T x y T') (hx : evL L x = some (.string s)) (hy : evL L y = some (.string t)) : Run P E N L H o (.bool (decide (s = t))) := fun a w hL _ => by
  simp only [execOp, ho, hL.ev hx, hL.ev hy, eqGuard, binOp, Op.stringOp, beq_toList]
  simp
theorem r_sne (ho : o.op = .binOp .neq T x y T') (hx : evL L x = some (.string s)) (hy : evL L y = some (.string t)) : Run P E N L H o (.bool (decide (s ≠ t))) := fun a w hL _ => by
  simp only [execOp, ho, hL.ev hx, hL.ev hy, eqGuard, binOp, Op.stringOp, beq_toList]
  simp
end strings

/-! #### Bools -/
theorem r_beq {T T' : TypeId} {b c : Bool} (ho : o.op = .binOp .eql T x y T') (hx : evL L x = some (.bool b)) (hy : evL L y = some (.bool c)) (hu : P.underlying T = some .bool) : Run P E N L H o (.bool (b == c)) := fun a w hL _ => by
  have h := run_eql_bool (P := P) w T b c hu
  simp [execOp, ho, hL.ev hx, hL.ev hy, eqGuard, h]

theorem run_neq_bool (w : World) (t : TypeId) (a b : Bool) (h : P.underlying t = some .bool) : (binOp .neq t (.bool a) (.bool b)).run P w = .ok (.bool (a != b)) w := by
  have h1 : ∀ d, (Op.equalIn (d + 1) t (.bool a) (.bool b)).run P w = .ok (a == b) w := fun d => by
    simp only [Op.equalIn, Sem.run_bind, underlying, run_program, Result.andThen_ok, h, Sem.run_pure]
  have h2 : (Op.equal t (.bool a) (.bool b)).run P w = .ok (a == b) w := h1 9999
  simp only [binOp, Sem.run_bind, h2, Result.andThen_ok, Sem.run_pure]
  rfl

theorem r_bne {T T' : TypeId} {b c : Bool} (ho : o.op = .binOp .neq T x y T') (hx : evL L x = some (.bool b)) (hy : evL L y = some (.bool c)) (hu : P.underlying T = some .bool) : Run P E N L H o (.bool (b != c)) := fun a w hL _ => by
  have h := run_neq_bool (P := P) w T b c hu
  simp [execOp, ho, hL.ev hx, hL.ev hy, eqGuard, h]

end Go.Sal
