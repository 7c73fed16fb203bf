/- Calls that are walked in place, loops that are unrolled, arrays as lists of words. -/
import Derived.Test.YtpahhlbgomcnjaaWords
import Derived.LoopN
namespace Go.Sal
set_option linter.unusedVariables false
variable {P : Program} {E : Env} {N N' M : Nat} {L L' : List (Nat × Value)} {H H' : Heap} {K K' : Act → World → Prop} {Q : Exit → Act → World → Prop}
variable {ops : Array Oper} {rest : List Oper} {o : Oper} {d : Nat} {x y z : Operand}

theorem o_inline {f : FuncId} {fn : Func} {c : Code} {xs : List Operand} {vs : List Value} {ats : Array TypeId} (ho : o.op = .call { callee := .value (.func f), args := xs.toArray, argTypes := ats }) (hd : o.dst = some d) (hN : Nat.blt d N = true)
    (hc : ∀ args w, (callFunc f args).run P w = .ok (.enter f args) w) (hx : evLs L xs = some vs) (hf : P.funcs[f]? = some fn) (hb : fn.body = some c) (hn : fn.ntmps = N') (ha : Nat.ble vs.length N' = true)
    (t : Then E N' (enumL 0 vs) H (c.wp P (bodyPost P fn (RP E fun v H2 => Then E N ((d, v) :: L) H2 K)))) : Then E N L H (fun a w => o.wp P a w K Q) :=
  o_call ho hd hN hc hx (Fn.of_body hf hb hn ha t) (fun v H' h => h)

theorem o_inlinev {f : FuncId} {fn : Func} {c : Code} {k : Nat} {xs : List Operand} {vs fs cs : List Value} {ats : Array TypeId} (ho : o.op = .call { callee := .value (.tmp k), args := xs.toArray, argTypes := ats }) (hd : o.dst = some d) (hN : Nat.blt d N = true)
    (hk : lk L k = some (.func (.func f) fs.toArray cs.toArray))
    (hc : ∀ args w, (callFunc f args).run P w = .ok (.enter f args) w) (hx : evLs L xs = some vs) (hf : P.funcs[f]? = some fn) (hb : fn.body = some c) (hn : fn.ntmps = N') (ha : Nat.ble (fs ++ vs ++ cs).length N' = true)
    (t : Then E N' (enumL 0 (fs ++ vs ++ cs)) H (c.wp P (bodyPost P fn (RP E fun v H2 => Then E N ((d, v) :: L) H2 K)))) : Then E N L H (fun a w => o.wp P a w K Q) :=
  o_callv ho hd hN hk hc hx (Fn.of_body hf hb hn ha t) (fun v H' h => h)

theorem e_retT {fn : Func} {rs : List ResultVar} {vs : List Value} (hr : fn.results = rs.toArray) (h : Res P L H rs vs) (t : Then E M ((d, retV vs) :: L') H K) : Then E N L H (bodyPost P fn (RP E fun v H2 => Then E M ((d, v) :: L') H2 K) .ret) :=
  e_ret hr h t
theorem e_endT {fn : Func} (hr : fn.results = #[]) (t : Then E M ((d, .tuple #[]) :: L') H K) : Then E N L H (bodyPost P fn (RP E fun v H2 => Then E M ((d, v) :: L') H2 K) .normal) :=
  e_end hr t

theorem t_unroll {c : Code} (n : Nat) (t : Then E N L H (Code.rounds P c Q n)) : Then E N L H ((Code.loop c).wp P Q) := fun a w hL hH => wp_loop_rounds n (t a w hL hH)
theorem t_round {c : Code} {n : Nat} (t : Then E N L H (c.wp P (Exit.then (Code.rounds P c Q n) Q))) : Then E N L H (Code.rounds P c Q (n + 1)) := t

/-! ### Arrays as lists -/
def u32 (x : UInt32) : Value := .int .u32 (x.toNat : Int)
def u64 (x : UInt64) : Value := .int .u64 (x.toNat : Int)

theorem map_get {α : Type} [Inhabited α] {f : α → Value} {l : List α} {i : Nat} (h : i < l.length) : (l.map f)[i]? = some (f (l[i]!)) := by
  rw [List.getElem?_map, List.getElem?_eq_getElem h, getElem!_pos l i h]; rfl
theorem map_geti {α : Type} [Inhabited α] {f : α → Value} {l : List α} {i : Nat} (off : Nat) (h : i < l.length) (ho : off = 0) : ((l.map f).toArray)[off + i * 1]? = some (f (l[i]!)) := by
  subst ho
  rw [Nat.zero_add, Nat.mul_one, List.getElem?_toArray, map_get h]
theorem map_set {α : Type} {f : α → Value} {l : List α} {i : Nat} {v : α} : (l.map f).set i (f v) = (l.set i v).map f := (List.map_set ..).symm

end Go.Sal
