/- Strings out of bytes, strings joined. -/
import Derived.Test.YtpahhlbgomcnjaaEqual
import Derived.Test.YtpahhlbgomcnjaaArrays
import Derived.Laws.BytesArg
namespace Go.Sal
set_option linter.unusedVariables false
variable {P : Program} {E : Env} {N : Nat} {L : List (Nat × Value)} {H : Heap} {o : Oper} {x y : Operand}

theorem r_str1 {S T e : TypeId} {b : Nat} {n : Int} {U : TypeId} {fr : Nat × Nat} (ho : o.op = .convert S T x) (hx : evL L x = some (.slice (some ⟨b, 0, none⟩) 1 1)) (hs : P.underlying S = some (.slice e)) (he : P.underlying e = some (.int .u8)) (ht : P.underlying T = some .string)
    (hb : (b, .cells ([.int .u8 n] : List Value).toArray U fr) ∈ H) : Run P E N L H o (.string ⟨#[UInt8.ofNat n.toNat]⟩) := fun a w hL hH => by
  have h := run_convert_bytes_arg (P := P) w S e hs he b 0 1 1 [n] rfl (fun i hi => by
    obtain rfl : i = 0 := by omega
    rw [hH.cell hb]; rfl) T ht
  simp only [execOp, ho, hL.ev hx, Sem.run_bind, h, Result.andThen_ok, Sem.run_pure]
  rfl

theorem strOfNums_u8 (l : List UInt8) : strOfNums (l.map fun u => (u.toNat : Int)) = ⟨l.toArray⟩ := by
  unfold strOfNums
  congr 2
  rw [List.map_map]
  conv => rhs; rw [← List.map_id l]
  congr 1
  funext u
  simp
/-- string(b). -/
theorem r_bytesStr {S T e : TypeId} {a : Option Addr} {n c : Nat} {l : List UInt8} (ho : o.op = .convert S T x) (hx : evL L x = some (.slice a n c)) (hs : P.underlying S = some (.slice e)) (he : P.underlying e = some (.int .u8)) (ht : P.underlying T = some .string)
    (hl : SliceAt H encU8 1 a n c l) : Run P E N L H o (.string ⟨l.toArray⟩) := fun ac w hL hH => by
  have h : (convert S T (.slice a n c)).run P w = .ok (.string ⟨l.toArray⟩) w := by
    by_cases h0 : n = 0
    · have hl0 : l = [] := List.eq_nil_of_length_eq_zero (hl.len.trans h0)
      subst h0 hl0
      rw [run_convert_bytes_string w S T e a 0 c hs he ht]
      cases a with
      | none => simp [Conv.bytesToString]; rfl
      | some ad => rw [run_bytesToString w ad 0 c [] (by simp [loadCells, loadCellsFrom])]; rfl
    · obtain ⟨b, off, cs, T', fr, rfl, hm, hr⟩ := hl.opn (by omega)
      have hh := run_convert_bytes_arg (P := P) w S e hs he b off n c (l.map fun u => (u.toNat : Int)) (by rw [List.length_map]; exact hl.len) (fun i hi => by
        rw [hH.cell hm]
        have hi' : i < l.length := by rw [hl.len]; exact hi
        have := hr.elem (i := i) (x := l[i]) (List.getElem?_eq_getElem hi') 0 (u8 l[i]) rfl
        rw [Nat.mul_one, Nat.add_zero] at this
        rw [this, List.getD_eq_getElem?_getD, List.getElem?_map, List.getElem?_eq_getElem hi']
        rfl) T ht
      rw [hh, strOfNums_u8]
  simp only [execOp, ho, hL.ev hx, Sem.run_bind, h, Result.andThen_ok, Sem.run_pure]

theorem r_sadd {s t : ByteArray} {T T' : TypeId} (ho : o.op = .binOp .add T x y T') (hx : evL L x = some (.string s)) (hy : evL L y = some (.string t)) (h : s.size + t.size ≤ 9223372036854775807) : Run P E N L H o (.string (s ++ t)) := fun a w hL _ => by
  have hn : ¬ (((s.size + t.size : Nat) : Int) > IntKind.i64.max) := by
    simp [IntKind.max, IntKind.signed, IntKind.bits]; omega
  simp only [execOp, ho, hL.ev hx, hL.ev hy, eqGuard, binOp, Op.stringOp, if_neg hn]
  simp
end Go.Sal
namespace Go.Sal
/-- So many bytes that are zero. -/
def z8 (n : Nat) : List Value := List.replicate n (.int .u8 0)
end Go.Sal
namespace Go.Sal
/-- A guard over an operation that was itself passed over. -/
theorem l_noU {P : Program} {E : Env} {N : Nat} {L : List (Nat × Value)} {H : Heap} {Q : Exit → Act → World → Prop} {ops : Array Oper} {o : Oper} {rest : List Oper} {d j dj : Nat} {b : Bool}
    (hg : o.guard = some (j, b)) (hj : (ops[j]?).bind (·.dst) = some dj) (hv : lk L dj = some undef) (hd : o.dst = some d) (hN : Nat.blt d N = true)
    (t : Then E N ((d, undef) :: L) H (wpList P ops Q rest)) : Then E N L H (wpList P ops Q (o :: rest)) := fun a w hL hH => by
  have hy : yielded ops a.tmps j = none := by simp [yielded, hj, hL.mem _ _ hv, undef]
  unfold wpList
  rw [if_neg (by simp only [Region.wanted, hg, hy]; intro h; cases b <;> simp_all)]
  rw [hd]
  exact t _ _ (hL.put hN _) hH
end Go.Sal
