/- Strings out of bytes, strings joined. -/
import Derived.Test.YtbiailfegepeaaaEqual
import Derived.Laws.BytesArg
namespace Go.Sal
set_option linter.unusedVariables false
variable {P : Program} {E : Env} {N : Nat} {L : List (Nat × Value)} {H : Heap} {o : Oper} {x y : Operand}

theorem r_str1 {S T e : TypeId} {b : Nat} {n : Int} {U : TypeId} {fr : Nat × Nat} (ho : o.op = .convert S T x) (hx : evL L x = some (.slice (some ⟨b, 0, none⟩) 1 1)) (hs : P.underlying S = some (.slice e)) (he : P.underlying e = some (.int .u8)) (ht : P.underlying T = some .string)
    (hb : (b, .cells ([.int .u8 n] : List Value).toArray U fr) ∈ H) : Run P E N L H o (.string ⟨#[UInt8.ofNat n.toNat]⟩) := fun a w hL hH => by
  have h := run_convert_bytes_arg (P := P) w S e hs he b 0 1 1 [n] rfl (fun i hi => by
    obtain rfl : i = 0 := by omega
    rw [hH.cell hb]; rfl) T ht
  simp only [execOp, ho, hL.ev hx, Sem.run_bind, h, Result.andThen_ok, Sem.run_pure]
  rfl

theorem r_sadd {s t : ByteArray} {T T' : TypeId} (ho : o.op = .binOp .add T x y T') (hx : evL L x = some (.string s)) (hy : evL L y = some (.string t)) (h : s.size + t.size ≤ 9223372036854775807) : Run P E N L H o (.string (s ++ t)) := fun a w hL _ => by
  have hn : ¬ (((s.size + t.size : Nat) : Int) > IntKind.i64.max) := by
    simp [IntKind.max, IntKind.signed, IntKind.bits]; omega
  simp only [execOp, ho, hL.ev hx, hL.ev hy, eqGuard, binOp, Op.stringOp, if_neg hn]
  simp
end Go.Sal
