/- Words: numbers of 8, 32 and 64 bits as machine words, and what the operations on them yield. (Printed by words_gen.py.) -/
import Derived.Test.YtpahhlbgomcnjaaExtra
namespace Go.Sal
set_option linter.unusedVariables false
set_option linter.unusedSimpArgs false
variable {P : Program} {E : Env} {N : Nat} {L : List (Nat × Value)} {H : Heap} {o : Oper} {x y : Operand} {T T' S : TypeId}


/-! ### u8 -/
theorem lt8 (a : UInt8) : a.toNat < 256 := a.toNat_lt
theorem wr8 {m : Nat} (h : m < 256) : IntKind.u8.wrap (m : Int) = (m : Int) := by
  simp only [IntKind.wrap, IntKind.bits, IntKind.signed]
  simp
  omega
theorem wrm8 (m : Int) (h : 0 ≤ m) : IntKind.u8.wrap m = ((m.toNat % 256 : Nat) : Int) := by
  simp only [IntKind.wrap, IntKind.bits, IntKind.signed]
  simp
  omega
theorem bv8 (a : UInt8) : BitVec.ofInt 8 (a.toNat : Int) = a.toBitVec := by
  apply BitVec.eq_of_toNat_eq
  rw [BitVec.ofInt_natCast, BitVec.toNat_ofNat, Nat.mod_eq_of_lt a.toNat_lt]
  rfl

theorem r_w8and {a b : UInt8} (ho : o.op = .binOp .and T x y T') (hx : evL L x = some (.int .u8 (a.toNat : Int))) (hy : evL L y = some (.int .u8 (b.toNat : Int))) : Run P E N L H o (.int .u8 ((a &&& b).toNat : Int)) := fun a' w hL _ => by
  have e : Op.intBits .and .u8 (a.toNat : Int) (b.toNat : Int) = pure (.int .u8 ((a &&& b).toNat : Int)) := by
    unfold Op.intBits
    have ea : BitVec.ofInt (IntKind.bits .u8) (a.toNat : Int) = a.toBitVec := bv8 a
    have eb : BitVec.ofInt (IntKind.bits .u8) (b.toNat : Int) = b.toBitVec := bv8 b
    simp only [ea, eb]
    exact congrArg (fun q => (pure (Value.int .u8 q) : Sem Value)) (wr8 (lt8 (a &&& b)))
  simp [execOp, ho, hL.ev hx, hL.ev hy, eqGuard, binOp, e]

theorem r_w8or {a b : UInt8} (ho : o.op = .binOp .or T x y T') (hx : evL L x = some (.int .u8 (a.toNat : Int))) (hy : evL L y = some (.int .u8 (b.toNat : Int))) : Run P E N L H o (.int .u8 ((a ||| b).toNat : Int)) := fun a' w hL _ => by
  have e : Op.intBits .or .u8 (a.toNat : Int) (b.toNat : Int) = pure (.int .u8 ((a ||| b).toNat : Int)) := by
    unfold Op.intBits
    have ea : BitVec.ofInt (IntKind.bits .u8) (a.toNat : Int) = a.toBitVec := bv8 a
    have eb : BitVec.ofInt (IntKind.bits .u8) (b.toNat : Int) = b.toBitVec := bv8 b
    simp only [ea, eb]
    exact congrArg (fun q => (pure (Value.int .u8 q) : Sem Value)) (wr8 (lt8 (a ||| b)))
  simp [execOp, ho, hL.ev hx, hL.ev hy, eqGuard, binOp, e]

theorem r_w8xor {a b : UInt8} (ho : o.op = .binOp .xor T x y T') (hx : evL L x = some (.int .u8 (a.toNat : Int))) (hy : evL L y = some (.int .u8 (b.toNat : Int))) : Run P E N L H o (.int .u8 ((a ^^^ b).toNat : Int)) := fun a' w hL _ => by
  have e : Op.intBits .xor .u8 (a.toNat : Int) (b.toNat : Int) = pure (.int .u8 ((a ^^^ b).toNat : Int)) := by
    unfold Op.intBits
    have ea : BitVec.ofInt (IntKind.bits .u8) (a.toNat : Int) = a.toBitVec := bv8 a
    have eb : BitVec.ofInt (IntKind.bits .u8) (b.toNat : Int) = b.toBitVec := bv8 b
    simp only [ea, eb]
    exact congrArg (fun q => (pure (Value.int .u8 q) : Sem Value)) (wr8 (lt8 (a ^^^ b)))
  simp [execOp, ho, hL.ev hx, hL.ev hy, eqGuard, binOp, e]

theorem r_w8andnot {a b : UInt8} (ho : o.op = .binOp .andNot T x y T') (hx : evL L x = some (.int .u8 (a.toNat : Int))) (hy : evL L y = some (.int .u8 (b.toNat : Int))) : Run P E N L H o (.int .u8 ((a &&& ~~~b).toNat : Int)) := fun a' w hL _ => by
  have e : Op.intBits .andNot .u8 (a.toNat : Int) (b.toNat : Int) = pure (.int .u8 ((a &&& ~~~b).toNat : Int)) := by
    unfold Op.intBits
    have ea : BitVec.ofInt (IntKind.bits .u8) (a.toNat : Int) = a.toBitVec := bv8 a
    have eb : BitVec.ofInt (IntKind.bits .u8) (b.toNat : Int) = b.toBitVec := bv8 b
    simp only [ea, eb]
    exact congrArg (fun q => (pure (Value.int .u8 q) : Sem Value)) (wr8 (lt8 (a &&& ~~~b)))
  simp [execOp, ho, hL.ev hx, hL.ev hy, eqGuard, binOp, e]

theorem r_w8add {a b : UInt8} (ho : o.op = .binOp .add T x y T') (hx : evL L x = some (.int .u8 (a.toNat : Int))) (hy : evL L y = some (.int .u8 (b.toNat : Int))) : Run P E N L H o (.int .u8 ((a + b).toNat : Int)) := by
  have h := r_addw (P := P) (E := E) (N := N) (H := H) ho hx hy
  have e : IntKind.u8.wrap ((a.toNat : Int) + (b.toNat : Int)) = ((a + b).toNat : Int) := by
    rw [show (a.toNat : Int) + (b.toNat : Int) = ((a.toNat + b.toNat : Nat) : Int) by push_cast; rfl, wrm8 _ (Int.natCast_nonneg _), UInt8.toNat_add]
    rfl
  rwa [e] at h

theorem r_w8mul {a b : UInt8} (ho : o.op = .binOp .mul T x y T') (hx : evL L x = some (.int .u8 (a.toNat : Int))) (hy : evL L y = some (.int .u8 (b.toNat : Int))) : Run P E N L H o (.int .u8 ((a * b).toNat : Int)) := by
  have h := r_mulw (P := P) (E := E) (N := N) (H := H) ho hx hy
  have e : IntKind.u8.wrap ((a.toNat : Int) * (b.toNat : Int)) = ((a * b).toNat : Int) := by
    rw [show (a.toNat : Int) * (b.toNat : Int) = ((a.toNat * b.toNat : Nat) : Int) by push_cast; rfl, wrm8 _ (Int.natCast_nonneg _), UInt8.toNat_mul]
    rfl
  rwa [e] at h

theorem r_w8sub {a b : UInt8} (ho : o.op = .binOp .sub T x y T') (hx : evL L x = some (.int .u8 (a.toNat : Int))) (hy : evL L y = some (.int .u8 (b.toNat : Int))) : Run P E N L H o (.int .u8 ((a - b).toNat : Int)) := by
  have h := r_subw (P := P) (E := E) (N := N) (H := H) ho hx hy
  have e : IntKind.u8.wrap ((a.toNat : Int) - (b.toNat : Int)) = ((a - b).toNat : Int) := by
    have h1 := a.toNat_lt
    have h2 := b.toNat_lt
    rw [UInt8.toNat_sub]
    simp only [IntKind.wrap, IntKind.bits, IntKind.signed]
    simp
    omega
  rwa [e] at h
theorem r_w8div {a b : UInt8} (ho : o.op = .binOp .quo T x y T') (hx : evL L x = some (.int .u8 (a.toNat : Int))) (hy : evL L y = some (.int .u8 (b.toNat : Int))) (hb : b.toNat ≠ 0) : Run P E N L H o (.int .u8 ((a / b).toNat : Int)) := fun a' w hL _ => by
  have hd : (a.toNat : Int).tdiv (b.toNat : Int) = ((a.toNat / b.toNat : Nat) : Int) := by rw [Int.tdiv_eq_ediv_of_nonneg (Int.natCast_nonneg _)]; rfl
  have hne : (b.toNat : Int) ≠ 0 := by omega
  have hlt : a.toNat / b.toNat < 256 := Nat.lt_of_le_of_lt (Nat.div_le_self _ _) a.toNat_lt
  have e : Op.intDiv .quo .u8 (a.toNat : Int) (b.toNat : Int) = pure (.int .u8 ((a / b).toNat : Int)) := by
    unfold Op.intDiv
    rw [UInt8.toNat_div, hd]
    have hw := wr8 hlt
    simp only [hw]
    simp [hb]
  simp only [execOp, ho, hL.ev hx, hL.ev hy, eqGuard, binOp, e]
  simp
theorem r_w8mod {a b : UInt8} (ho : o.op = .binOp .rem T x y T') (hx : evL L x = some (.int .u8 (a.toNat : Int))) (hy : evL L y = some (.int .u8 (b.toNat : Int))) (hb : b.toNat ≠ 0) : Run P E N L H o (.int .u8 ((a % b).toNat : Int)) := by
  have h := r_rem (P := P) (E := E) (N := N) (H := H) ho hx hy (Int.natCast_nonneg _) (by omega)
  rwa [show (a.toNat : Int) % (b.toNat : Int) = ((a % b).toNat : Int) by rw [UInt8.toNat_mod]; rfl] at h
theorem r_w8not {a : UInt8} (ho : o.op = .unOp .xor T x) (hx : evL L x = some (.int .u8 (a.toNat : Int))) : Run P E N L H o (.int .u8 ((~~~a).toNat : Int)) := fun a' w hL _ => by
  have e : Op.unary .xor (.int .u8 (a.toNat : Int)) = pure (.int .u8 ((~~~a).toNat : Int)) := by
    show Op.intBits .xor .u8 (if IntKind.signed .u8 then -1 else IntKind.max .u8) (a.toNat : Int) = _
    unfold Op.intBits
    have ea : BitVec.ofInt (IntKind.bits .u8) (a.toNat : Int) = a.toBitVec := bv8 a
    have eb : BitVec.ofInt (IntKind.bits .u8) (if IntKind.signed .u8 then -1 else IntKind.max .u8) = BitVec.allOnes 8 := by kernel_rfl
    have ex : (BitVec.allOnes 8 ^^^ a.toBitVec) = (~~~a).toBitVec := by
      rw [UInt8.toBitVec_not]; exact (BitVec.allOnes_xor).trans rfl
    simp only [ea, eb]
    exact (congrArg (fun q : BitVec 8 => (pure (Value.int .u8 (IntKind.u8.wrap (q.toNat : Int))) : Sem Value)) ex).trans (congrArg (fun q => (pure (Value.int .u8 q) : Sem Value)) (wr8 (lt8 (~~~a))))
  simp [execOp, ho, hL.ev hx, e]
/-- Shifts by a number that is known. -/
theorem r_w8shr {a : UInt8} {yk : IntKind} {m : Int} (c : UInt8) (ho : o.op = .binOp .shr T x y T') (hx : evL L x = some (.int .u8 (a.toNat : Int))) (hy : evL L y = some (.int yk m)) (hm : m = (c.toNat : Int)) (hc : Nat.blt c.toNat 8 = true) : Run P E N L H o (.int .u8 ((a >>> c).toNat : Int)) := fun a' w hL _ => by
  have hc' : c.toNat < 8 := by simpa using hc
  subst hm
  have e : Op.shift .shr .u8 (a.toNat : Int) yk (c.toNat : Int) = pure (.int .u8 ((a >>> c).toNat : Int)) := by
    rw [shift_shr_u8 (x := (a.toNat : Int)) (y := (c.toNat : Int)) (yk := yk) (by omega) (by omega), UInt8.toNat_shiftRight, Nat.mod_eq_of_lt hc', Nat.shiftRight_eq_div_pow]
    simp
  simp [execOp, ho, hL.ev hx, hL.ev hy, eqGuard, binOp, e]
theorem r_w8shl {a : UInt8} {yk : IntKind} {m : Int} (c : UInt8) (ho : o.op = .binOp .shl T x y T') (hx : evL L x = some (.int .u8 (a.toNat : Int))) (hy : evL L y = some (.int yk m)) (hm : m = (c.toNat : Int)) (hc : Nat.blt c.toNat 8 = true) : Run P E N L H o (.int .u8 ((a <<< c).toNat : Int)) := fun a' w hL _ => by
  have hc' : c.toNat < 8 := by simpa using hc
  subst hm
  have e : Op.shift .shl .u8 (a.toNat : Int) yk (c.toNat : Int) = pure (.int .u8 ((a <<< c).toNat : Int)) := by
    rw [shift_shl_u8 (x := (a.toNat : Int)) (y := (c.toNat : Int)) (yk := yk) (by omega) (by omega), UInt8.toNat_shiftLeft, Nat.mod_eq_of_lt hc', Nat.shiftLeft_eq]
    rw [show (a.toNat : Int) * 2 ^ (c.toNat : Int).toNat = ((a.toNat * 2 ^ c.toNat : Nat) : Int) by push_cast; rfl, wrm8 _ (Int.natCast_nonneg _)]
    rfl
  simp [execOp, ho, hL.ev hx, hL.ev hy, eqGuard, binOp, e]


/-! ### u32 -/
theorem lt32 (a : UInt32) : a.toNat < 4294967296 := a.toNat_lt
theorem wr32 {m : Nat} (h : m < 4294967296) : IntKind.u32.wrap (m : Int) = (m : Int) := by
  simp only [IntKind.wrap, IntKind.bits, IntKind.signed]
  simp
  omega
theorem wrm32 (m : Int) (h : 0 ≤ m) : IntKind.u32.wrap m = ((m.toNat % 4294967296 : Nat) : Int) := by
  simp only [IntKind.wrap, IntKind.bits, IntKind.signed]
  simp
  omega
theorem bv32 (a : UInt32) : BitVec.ofInt 32 (a.toNat : Int) = a.toBitVec := by
  apply BitVec.eq_of_toNat_eq
  rw [BitVec.ofInt_natCast, BitVec.toNat_ofNat, Nat.mod_eq_of_lt a.toNat_lt]
  rfl

theorem r_w32and {a b : UInt32} (ho : o.op = .binOp .and T x y T') (hx : evL L x = some (.int .u32 (a.toNat : Int))) (hy : evL L y = some (.int .u32 (b.toNat : Int))) : Run P E N L H o (.int .u32 ((a &&& b).toNat : Int)) := fun a' w hL _ => by
  have e : Op.intBits .and .u32 (a.toNat : Int) (b.toNat : Int) = pure (.int .u32 ((a &&& b).toNat : Int)) := by
    unfold Op.intBits
    have ea : BitVec.ofInt (IntKind.bits .u32) (a.toNat : Int) = a.toBitVec := bv32 a
    have eb : BitVec.ofInt (IntKind.bits .u32) (b.toNat : Int) = b.toBitVec := bv32 b
    simp only [ea, eb]
    exact congrArg (fun q => (pure (Value.int .u32 q) : Sem Value)) (wr32 (lt32 (a &&& b)))
  simp [execOp, ho, hL.ev hx, hL.ev hy, eqGuard, binOp, e]

theorem r_w32or {a b : UInt32} (ho : o.op = .binOp .or T x y T') (hx : evL L x = some (.int .u32 (a.toNat : Int))) (hy : evL L y = some (.int .u32 (b.toNat : Int))) : Run P E N L H o (.int .u32 ((a ||| b).toNat : Int)) := fun a' w hL _ => by
  have e : Op.intBits .or .u32 (a.toNat : Int) (b.toNat : Int) = pure (.int .u32 ((a ||| b).toNat : Int)) := by
    unfold Op.intBits
    have ea : BitVec.ofInt (IntKind.bits .u32) (a.toNat : Int) = a.toBitVec := bv32 a
    have eb : BitVec.ofInt (IntKind.bits .u32) (b.toNat : Int) = b.toBitVec := bv32 b
    simp only [ea, eb]
    exact congrArg (fun q => (pure (Value.int .u32 q) : Sem Value)) (wr32 (lt32 (a ||| b)))
  simp [execOp, ho, hL.ev hx, hL.ev hy, eqGuard, binOp, e]

theorem r_w32xor {a b : UInt32} (ho : o.op = .binOp .xor T x y T') (hx : evL L x = some (.int .u32 (a.toNat : Int))) (hy : evL L y = some (.int .u32 (b.toNat : Int))) : Run P E N L H o (.int .u32 ((a ^^^ b).toNat : Int)) := fun a' w hL _ => by
  have e : Op.intBits .xor .u32 (a.toNat : Int) (b.toNat : Int) = pure (.int .u32 ((a ^^^ b).toNat : Int)) := by
    unfold Op.intBits
    have ea : BitVec.ofInt (IntKind.bits .u32) (a.toNat : Int) = a.toBitVec := bv32 a
    have eb : BitVec.ofInt (IntKind.bits .u32) (b.toNat : Int) = b.toBitVec := bv32 b
    simp only [ea, eb]
    exact congrArg (fun q => (pure (Value.int .u32 q) : Sem Value)) (wr32 (lt32 (a ^^^ b)))
  simp [execOp, ho, hL.ev hx, hL.ev hy, eqGuard, binOp, e]

theorem r_w32andnot {a b : UInt32} (ho : o.op = .binOp .andNot T x y T') (hx : evL L x = some (.int .u32 (a.toNat : Int))) (hy : evL L y = some (.int .u32 (b.toNat : Int))) : Run P E N L H o (.int .u32 ((a &&& ~~~b).toNat : Int)) := fun a' w hL _ => by
  have e : Op.intBits .andNot .u32 (a.toNat : Int) (b.toNat : Int) = pure (.int .u32 ((a &&& ~~~b).toNat : Int)) := by
    unfold Op.intBits
    have ea : BitVec.ofInt (IntKind.bits .u32) (a.toNat : Int) = a.toBitVec := bv32 a
    have eb : BitVec.ofInt (IntKind.bits .u32) (b.toNat : Int) = b.toBitVec := bv32 b
    simp only [ea, eb]
    exact congrArg (fun q => (pure (Value.int .u32 q) : Sem Value)) (wr32 (lt32 (a &&& ~~~b)))
  simp [execOp, ho, hL.ev hx, hL.ev hy, eqGuard, binOp, e]

theorem r_w32add {a b : UInt32} (ho : o.op = .binOp .add T x y T') (hx : evL L x = some (.int .u32 (a.toNat : Int))) (hy : evL L y = some (.int .u32 (b.toNat : Int))) : Run P E N L H o (.int .u32 ((a + b).toNat : Int)) := by
  have h := r_addw (P := P) (E := E) (N := N) (H := H) ho hx hy
  have e : IntKind.u32.wrap ((a.toNat : Int) + (b.toNat : Int)) = ((a + b).toNat : Int) := by
    rw [show (a.toNat : Int) + (b.toNat : Int) = ((a.toNat + b.toNat : Nat) : Int) by push_cast; rfl, wrm32 _ (Int.natCast_nonneg _), UInt32.toNat_add]
    rfl
  rwa [e] at h

theorem r_w32mul {a b : UInt32} (ho : o.op = .binOp .mul T x y T') (hx : evL L x = some (.int .u32 (a.toNat : Int))) (hy : evL L y = some (.int .u32 (b.toNat : Int))) : Run P E N L H o (.int .u32 ((a * b).toNat : Int)) := by
  have h := r_mulw (P := P) (E := E) (N := N) (H := H) ho hx hy
  have e : IntKind.u32.wrap ((a.toNat : Int) * (b.toNat : Int)) = ((a * b).toNat : Int) := by
    rw [show (a.toNat : Int) * (b.toNat : Int) = ((a.toNat * b.toNat : Nat) : Int) by push_cast; rfl, wrm32 _ (Int.natCast_nonneg _), UInt32.toNat_mul]
    rfl
  rwa [e] at h

theorem r_w32sub {a b : UInt32} (ho : o.op = .binOp .sub T x y T') (hx : evL L x = some (.int .u32 (a.toNat : Int))) (hy : evL L y = some (.int .u32 (b.toNat : Int))) : Run P E N L H o (.int .u32 ((a - b).toNat : Int)) := by
  have h := r_subw (P := P) (E := E) (N := N) (H := H) ho hx hy
  have e : IntKind.u32.wrap ((a.toNat : Int) - (b.toNat : Int)) = ((a - b).toNat : Int) := by
    have h1 := a.toNat_lt
    have h2 := b.toNat_lt
    rw [UInt32.toNat_sub]
    simp only [IntKind.wrap, IntKind.bits, IntKind.signed]
    simp
    omega
  rwa [e] at h
theorem r_w32div {a b : UInt32} (ho : o.op = .binOp .quo T x y T') (hx : evL L x = some (.int .u32 (a.toNat : Int))) (hy : evL L y = some (.int .u32 (b.toNat : Int))) (hb : b.toNat ≠ 0) : Run P E N L H o (.int .u32 ((a / b).toNat : Int)) := fun a' w hL _ => by
  have hd : (a.toNat : Int).tdiv (b.toNat : Int) = ((a.toNat / b.toNat : Nat) : Int) := by rw [Int.tdiv_eq_ediv_of_nonneg (Int.natCast_nonneg _)]; rfl
  have hne : (b.toNat : Int) ≠ 0 := by omega
  have hlt : a.toNat / b.toNat < 4294967296 := Nat.lt_of_le_of_lt (Nat.div_le_self _ _) a.toNat_lt
  have e : Op.intDiv .quo .u32 (a.toNat : Int) (b.toNat : Int) = pure (.int .u32 ((a / b).toNat : Int)) := by
    unfold Op.intDiv
    rw [UInt32.toNat_div, hd]
    have hw := wr32 hlt
    simp only [hw]
    simp [hb]
  simp only [execOp, ho, hL.ev hx, hL.ev hy, eqGuard, binOp, e]
  simp
theorem r_w32mod {a b : UInt32} (ho : o.op = .binOp .rem T x y T') (hx : evL L x = some (.int .u32 (a.toNat : Int))) (hy : evL L y = some (.int .u32 (b.toNat : Int))) (hb : b.toNat ≠ 0) : Run P E N L H o (.int .u32 ((a % b).toNat : Int)) := by
  have h := r_rem (P := P) (E := E) (N := N) (H := H) ho hx hy (Int.natCast_nonneg _) (by omega)
  rwa [show (a.toNat : Int) % (b.toNat : Int) = ((a % b).toNat : Int) by rw [UInt32.toNat_mod]; rfl] at h
theorem r_w32not {a : UInt32} (ho : o.op = .unOp .xor T x) (hx : evL L x = some (.int .u32 (a.toNat : Int))) : Run P E N L H o (.int .u32 ((~~~a).toNat : Int)) := fun a' w hL _ => by
  have e : Op.unary .xor (.int .u32 (a.toNat : Int)) = pure (.int .u32 ((~~~a).toNat : Int)) := by
    show Op.intBits .xor .u32 (if IntKind.signed .u32 then -1 else IntKind.max .u32) (a.toNat : Int) = _
    unfold Op.intBits
    have ea : BitVec.ofInt (IntKind.bits .u32) (a.toNat : Int) = a.toBitVec := bv32 a
    have eb : BitVec.ofInt (IntKind.bits .u32) (if IntKind.signed .u32 then -1 else IntKind.max .u32) = BitVec.allOnes 32 := by kernel_rfl
    have ex : (BitVec.allOnes 32 ^^^ a.toBitVec) = (~~~a).toBitVec := by
      rw [UInt32.toBitVec_not]; exact (BitVec.allOnes_xor).trans rfl
    simp only [ea, eb]
    exact (congrArg (fun q : BitVec 32 => (pure (Value.int .u32 (IntKind.u32.wrap (q.toNat : Int))) : Sem Value)) ex).trans (congrArg (fun q => (pure (Value.int .u32 q) : Sem Value)) (wr32 (lt32 (~~~a))))
  simp [execOp, ho, hL.ev hx, e]
/-- Shifts by a number that is known. -/
theorem r_w32shr {a : UInt32} {yk : IntKind} {m : Int} (c : UInt32) (ho : o.op = .binOp .shr T x y T') (hx : evL L x = some (.int .u32 (a.toNat : Int))) (hy : evL L y = some (.int yk m)) (hm : m = (c.toNat : Int)) (hc : Nat.blt c.toNat 32 = true) : Run P E N L H o (.int .u32 ((a >>> c).toNat : Int)) := fun a' w hL _ => by
  have hc' : c.toNat < 32 := by simpa using hc
  subst hm
  have e : Op.shift .shr .u32 (a.toNat : Int) yk (c.toNat : Int) = pure (.int .u32 ((a >>> c).toNat : Int)) := by
    rw [shift_shr_u32 (x := (a.toNat : Int)) (y := (c.toNat : Int)) (yk := yk) (by omega) (by omega), UInt32.toNat_shiftRight, Nat.mod_eq_of_lt hc', Nat.shiftRight_eq_div_pow]
    simp
  simp [execOp, ho, hL.ev hx, hL.ev hy, eqGuard, binOp, e]
theorem r_w32shl {a : UInt32} {yk : IntKind} {m : Int} (c : UInt32) (ho : o.op = .binOp .shl T x y T') (hx : evL L x = some (.int .u32 (a.toNat : Int))) (hy : evL L y = some (.int yk m)) (hm : m = (c.toNat : Int)) (hc : Nat.blt c.toNat 32 = true) : Run P E N L H o (.int .u32 ((a <<< c).toNat : Int)) := fun a' w hL _ => by
  have hc' : c.toNat < 32 := by simpa using hc
  subst hm
  have e : Op.shift .shl .u32 (a.toNat : Int) yk (c.toNat : Int) = pure (.int .u32 ((a <<< c).toNat : Int)) := by
    rw [shift_shl_u32 (x := (a.toNat : Int)) (y := (c.toNat : Int)) (yk := yk) (by omega) (by omega), UInt32.toNat_shiftLeft, Nat.mod_eq_of_lt hc', Nat.shiftLeft_eq]
    rw [show (a.toNat : Int) * 2 ^ (c.toNat : Int).toNat = ((a.toNat * 2 ^ c.toNat : Nat) : Int) by push_cast; rfl, wrm32 _ (Int.natCast_nonneg _)]
    rfl
  simp [execOp, ho, hL.ev hx, hL.ev hy, eqGuard, binOp, e]


/-! ### u64 -/
theorem lt64 (a : UInt64) : a.toNat < 18446744073709551616 := a.toNat_lt
theorem wr64 {m : Nat} (h : m < 18446744073709551616) : IntKind.u64.wrap (m : Int) = (m : Int) := by
  simp only [IntKind.wrap, IntKind.bits, IntKind.signed]
  simp
  omega
theorem wrm64 (m : Int) (h : 0 ≤ m) : IntKind.u64.wrap m = ((m.toNat % 18446744073709551616 : Nat) : Int) := by
  simp only [IntKind.wrap, IntKind.bits, IntKind.signed]
  simp
  omega
theorem bv64 (a : UInt64) : BitVec.ofInt 64 (a.toNat : Int) = a.toBitVec := by
  apply BitVec.eq_of_toNat_eq
  rw [BitVec.ofInt_natCast, BitVec.toNat_ofNat, Nat.mod_eq_of_lt a.toNat_lt]
  rfl

theorem r_w64and {a b : UInt64} (ho : o.op = .binOp .and T x y T') (hx : evL L x = some (.int .u64 (a.toNat : Int))) (hy : evL L y = some (.int .u64 (b.toNat : Int))) : Run P E N L H o (.int .u64 ((a &&& b).toNat : Int)) := fun a' w hL _ => by
  have e : Op.intBits .and .u64 (a.toNat : Int) (b.toNat : Int) = pure (.int .u64 ((a &&& b).toNat : Int)) := by
    unfold Op.intBits
    have ea : BitVec.ofInt (IntKind.bits .u64) (a.toNat : Int) = a.toBitVec := bv64 a
    have eb : BitVec.ofInt (IntKind.bits .u64) (b.toNat : Int) = b.toBitVec := bv64 b
    simp only [ea, eb]
    exact congrArg (fun q => (pure (Value.int .u64 q) : Sem Value)) (wr64 (lt64 (a &&& b)))
  simp [execOp, ho, hL.ev hx, hL.ev hy, eqGuard, binOp, e]

theorem r_w64or {a b : UInt64} (ho : o.op = .binOp .or T x y T') (hx : evL L x = some (.int .u64 (a.toNat : Int))) (hy : evL L y = some (.int .u64 (b.toNat : Int))) : Run P E N L H o (.int .u64 ((a ||| b).toNat : Int)) := fun a' w hL _ => by
  have e : Op.intBits .or .u64 (a.toNat : Int) (b.toNat : Int) = pure (.int .u64 ((a ||| b).toNat : Int)) := by
    unfold Op.intBits
    have ea : BitVec.ofInt (IntKind.bits .u64) (a.toNat : Int) = a.toBitVec := bv64 a
    have eb : BitVec.ofInt (IntKind.bits .u64) (b.toNat : Int) = b.toBitVec := bv64 b
    simp only [ea, eb]
    exact congrArg (fun q => (pure (Value.int .u64 q) : Sem Value)) (wr64 (lt64 (a ||| b)))
  simp [execOp, ho, hL.ev hx, hL.ev hy, eqGuard, binOp, e]

theorem r_w64xor {a b : UInt64} (ho : o.op = .binOp .xor T x y T') (hx : evL L x = some (.int .u64 (a.toNat : Int))) (hy : evL L y = some (.int .u64 (b.toNat : Int))) : Run P E N L H o (.int .u64 ((a ^^^ b).toNat : Int)) := fun a' w hL _ => by
  have e : Op.intBits .xor .u64 (a.toNat : Int) (b.toNat : Int) = pure (.int .u64 ((a ^^^ b).toNat : Int)) := by
    unfold Op.intBits
    have ea : BitVec.ofInt (IntKind.bits .u64) (a.toNat : Int) = a.toBitVec := bv64 a
    have eb : BitVec.ofInt (IntKind.bits .u64) (b.toNat : Int) = b.toBitVec := bv64 b
    simp only [ea, eb]
    exact congrArg (fun q => (pure (Value.int .u64 q) : Sem Value)) (wr64 (lt64 (a ^^^ b)))
  simp [execOp, ho, hL.ev hx, hL.ev hy, eqGuard, binOp, e]

theorem r_w64andnot {a b : UInt64} (ho : o.op = .binOp .andNot T x y T') (hx : evL L x = some (.int .u64 (a.toNat : Int))) (hy : evL L y = some (.int .u64 (b.toNat : Int))) : Run P E N L H o (.int .u64 ((a &&& ~~~b).toNat : Int)) := fun a' w hL _ => by
  have e : Op.intBits .andNot .u64 (a.toNat : Int) (b.toNat : Int) = pure (.int .u64 ((a &&& ~~~b).toNat : Int)) := by
    unfold Op.intBits
    have ea : BitVec.ofInt (IntKind.bits .u64) (a.toNat : Int) = a.toBitVec := bv64 a
    have eb : BitVec.ofInt (IntKind.bits .u64) (b.toNat : Int) = b.toBitVec := bv64 b
    simp only [ea, eb]
    exact congrArg (fun q => (pure (Value.int .u64 q) : Sem Value)) (wr64 (lt64 (a &&& ~~~b)))
  simp [execOp, ho, hL.ev hx, hL.ev hy, eqGuard, binOp, e]

theorem r_w64add {a b : UInt64} (ho : o.op = .binOp .add T x y T') (hx : evL L x = some (.int .u64 (a.toNat : Int))) (hy : evL L y = some (.int .u64 (b.toNat : Int))) : Run P E N L H o (.int .u64 ((a + b).toNat : Int)) := by
  have h := r_addw (P := P) (E := E) (N := N) (H := H) ho hx hy
  have e : IntKind.u64.wrap ((a.toNat : Int) + (b.toNat : Int)) = ((a + b).toNat : Int) := by
    rw [show (a.toNat : Int) + (b.toNat : Int) = ((a.toNat + b.toNat : Nat) : Int) by push_cast; rfl, wrm64 _ (Int.natCast_nonneg _), UInt64.toNat_add]
    rfl
  rwa [e] at h

theorem r_w64mul {a b : UInt64} (ho : o.op = .binOp .mul T x y T') (hx : evL L x = some (.int .u64 (a.toNat : Int))) (hy : evL L y = some (.int .u64 (b.toNat : Int))) : Run P E N L H o (.int .u64 ((a * b).toNat : Int)) := by
  have h := r_mulw (P := P) (E := E) (N := N) (H := H) ho hx hy
  have e : IntKind.u64.wrap ((a.toNat : Int) * (b.toNat : Int)) = ((a * b).toNat : Int) := by
    rw [show (a.toNat : Int) * (b.toNat : Int) = ((a.toNat * b.toNat : Nat) : Int) by push_cast; rfl, wrm64 _ (Int.natCast_nonneg _), UInt64.toNat_mul]
    rfl
  rwa [e] at h

theorem r_w64sub {a b : UInt64} (ho : o.op = .binOp .sub T x y T') (hx : evL L x = some (.int .u64 (a.toNat : Int))) (hy : evL L y = some (.int .u64 (b.toNat : Int))) : Run P E N L H o (.int .u64 ((a - b).toNat : Int)) := by
  have h := r_subw (P := P) (E := E) (N := N) (H := H) ho hx hy
  have e : IntKind.u64.wrap ((a.toNat : Int) - (b.toNat : Int)) = ((a - b).toNat : Int) := by
    have h1 := a.toNat_lt
    have h2 := b.toNat_lt
    rw [UInt64.toNat_sub]
    simp only [IntKind.wrap, IntKind.bits, IntKind.signed]
    simp
    omega
  rwa [e] at h
theorem r_w64div {a b : UInt64} (ho : o.op = .binOp .quo T x y T') (hx : evL L x = some (.int .u64 (a.toNat : Int))) (hy : evL L y = some (.int .u64 (b.toNat : Int))) (hb : b.toNat ≠ 0) : Run P E N L H o (.int .u64 ((a / b).toNat : Int)) := fun a' w hL _ => by
  have hd : (a.toNat : Int).tdiv (b.toNat : Int) = ((a.toNat / b.toNat : Nat) : Int) := by rw [Int.tdiv_eq_ediv_of_nonneg (Int.natCast_nonneg _)]; rfl
  have hne : (b.toNat : Int) ≠ 0 := by omega
  have hlt : a.toNat / b.toNat < 18446744073709551616 := Nat.lt_of_le_of_lt (Nat.div_le_self _ _) a.toNat_lt
  have e : Op.intDiv .quo .u64 (a.toNat : Int) (b.toNat : Int) = pure (.int .u64 ((a / b).toNat : Int)) := by
    unfold Op.intDiv
    rw [UInt64.toNat_div, hd]
    have hw := wr64 hlt
    simp only [hw]
    simp [hb]
  simp only [execOp, ho, hL.ev hx, hL.ev hy, eqGuard, binOp, e]
  simp
theorem r_w64mod {a b : UInt64} (ho : o.op = .binOp .rem T x y T') (hx : evL L x = some (.int .u64 (a.toNat : Int))) (hy : evL L y = some (.int .u64 (b.toNat : Int))) (hb : b.toNat ≠ 0) : Run P E N L H o (.int .u64 ((a % b).toNat : Int)) := by
  have h := r_rem (P := P) (E := E) (N := N) (H := H) ho hx hy (Int.natCast_nonneg _) (by omega)
  rwa [show (a.toNat : Int) % (b.toNat : Int) = ((a % b).toNat : Int) by rw [UInt64.toNat_mod]; rfl] at h
theorem r_w64not {a : UInt64} (ho : o.op = .unOp .xor T x) (hx : evL L x = some (.int .u64 (a.toNat : Int))) : Run P E N L H o (.int .u64 ((~~~a).toNat : Int)) := fun a' w hL _ => by
  have e : Op.unary .xor (.int .u64 (a.toNat : Int)) = pure (.int .u64 ((~~~a).toNat : Int)) := by
    show Op.intBits .xor .u64 (if IntKind.signed .u64 then -1 else IntKind.max .u64) (a.toNat : Int) = _
    unfold Op.intBits
    have ea : BitVec.ofInt (IntKind.bits .u64) (a.toNat : Int) = a.toBitVec := bv64 a
    have eb : BitVec.ofInt (IntKind.bits .u64) (if IntKind.signed .u64 then -1 else IntKind.max .u64) = BitVec.allOnes 64 := by kernel_rfl
    have ex : (BitVec.allOnes 64 ^^^ a.toBitVec) = (~~~a).toBitVec := by
      rw [UInt64.toBitVec_not]; exact (BitVec.allOnes_xor).trans rfl
    simp only [ea, eb]
    exact (congrArg (fun q : BitVec 64 => (pure (Value.int .u64 (IntKind.u64.wrap (q.toNat : Int))) : Sem Value)) ex).trans (congrArg (fun q => (pure (Value.int .u64 q) : Sem Value)) (wr64 (lt64 (~~~a))))
  simp [execOp, ho, hL.ev hx, e]
/-- Shifts by a number that is known. -/
theorem r_w64shr {a : UInt64} {yk : IntKind} {m : Int} (c : UInt64) (ho : o.op = .binOp .shr T x y T') (hx : evL L x = some (.int .u64 (a.toNat : Int))) (hy : evL L y = some (.int yk m)) (hm : m = (c.toNat : Int)) (hc : Nat.blt c.toNat 64 = true) : Run P E N L H o (.int .u64 ((a >>> c).toNat : Int)) := fun a' w hL _ => by
  have hc' : c.toNat < 64 := by simpa using hc
  subst hm
  have e : Op.shift .shr .u64 (a.toNat : Int) yk (c.toNat : Int) = pure (.int .u64 ((a >>> c).toNat : Int)) := by
    rw [shift_shr_u64 (x := (a.toNat : Int)) (y := (c.toNat : Int)) (yk := yk) (by omega) (by omega), UInt64.toNat_shiftRight, Nat.mod_eq_of_lt hc', Nat.shiftRight_eq_div_pow]
    simp
  simp [execOp, ho, hL.ev hx, hL.ev hy, eqGuard, binOp, e]
theorem r_w64shl {a : UInt64} {yk : IntKind} {m : Int} (c : UInt64) (ho : o.op = .binOp .shl T x y T') (hx : evL L x = some (.int .u64 (a.toNat : Int))) (hy : evL L y = some (.int yk m)) (hm : m = (c.toNat : Int)) (hc : Nat.blt c.toNat 64 = true) : Run P E N L H o (.int .u64 ((a <<< c).toNat : Int)) := fun a' w hL _ => by
  have hc' : c.toNat < 64 := by simpa using hc
  subst hm
  have e : Op.shift .shl .u64 (a.toNat : Int) yk (c.toNat : Int) = pure (.int .u64 ((a <<< c).toNat : Int)) := by
    rw [shift_shl_u64 (x := (a.toNat : Int)) (y := (c.toNat : Int)) (yk := yk) (by omega) (by omega), UInt64.toNat_shiftLeft, Nat.mod_eq_of_lt hc', Nat.shiftLeft_eq]
    rw [show (a.toNat : Int) * 2 ^ (c.toNat : Int).toNat = ((a.toNat * 2 ^ c.toNat : Nat) : Int) by push_cast; rfl, wrm64 _ (Int.natCast_nonneg _)]
    rfl
  simp [execOp, ho, hL.ev hx, hL.ev hy, eqGuard, binOp, e]

theorem r_w8to32 {a : UInt8} {D : TypeDesc} (ho : o.op = .convert S T x) (hx : evL L x = some (.int .u8 (a.toNat : Int))) (hs : P.underlying S = some D) (ht : P.underlying T = some (.int .u32)) : Run P E N L H o (.int .u32 ((a.toUInt32).toNat : Int)) := by
  have h := r_conv (P := P) (E := E) (N := N) (H := H) ho hx hs ht
  have e : IntKind.u32.wrap (a.toNat : Int) = ((a.toUInt32).toNat : Int) := by
    have h1 := a.toNat_lt
    rw [wrm32 _ (Int.natCast_nonneg _), UInt8.toNat_toUInt32]
    simp
    try omega
  rwa [e] at h

theorem r_w8to64 {a : UInt8} {D : TypeDesc} (ho : o.op = .convert S T x) (hx : evL L x = some (.int .u8 (a.toNat : Int))) (hs : P.underlying S = some D) (ht : P.underlying T = some (.int .u64)) : Run P E N L H o (.int .u64 ((a.toUInt64).toNat : Int)) := by
  have h := r_conv (P := P) (E := E) (N := N) (H := H) ho hx hs ht
  have e : IntKind.u64.wrap (a.toNat : Int) = ((a.toUInt64).toNat : Int) := by
    have h1 := a.toNat_lt
    rw [wrm64 _ (Int.natCast_nonneg _), UInt8.toNat_toUInt64]
    simp
    try omega
  rwa [e] at h

theorem r_wIto8 {m : Int} {D : TypeDesc} {kk : IntKind} (ho : o.op = .convert S T x) (hx : evL L x = some (.int kk m)) (hs : P.underlying S = some D) (ht : P.underlying T = some (.int .u8)) (h0 : 0 ≤ m) : Run P E N L H o (.int .u8 ((UInt8.ofNat m.toNat).toNat : Int)) := by
  have h := r_conv (P := P) (E := E) (N := N) (H := H) ho hx hs ht
  have e : IntKind.u8.wrap m = ((UInt8.ofNat m.toNat).toNat : Int) := by
    rw [wrm8 _ h0, UInt8.toNat_ofNat']
  rwa [e] at h

theorem r_w32to8 {a : UInt32} {D : TypeDesc} (ho : o.op = .convert S T x) (hx : evL L x = some (.int .u32 (a.toNat : Int))) (hs : P.underlying S = some D) (ht : P.underlying T = some (.int .u8)) : Run P E N L H o (.int .u8 ((a.toUInt8).toNat : Int)) := by
  have h := r_conv (P := P) (E := E) (N := N) (H := H) ho hx hs ht
  have e : IntKind.u8.wrap (a.toNat : Int) = ((a.toUInt8).toNat : Int) := by
    have h1 := a.toNat_lt
    rw [wrm8 _ (Int.natCast_nonneg _), UInt32.toNat_toUInt8]
    simp
    try omega
  rwa [e] at h

theorem r_w32to64 {a : UInt32} {D : TypeDesc} (ho : o.op = .convert S T x) (hx : evL L x = some (.int .u32 (a.toNat : Int))) (hs : P.underlying S = some D) (ht : P.underlying T = some (.int .u64)) : Run P E N L H o (.int .u64 ((a.toUInt64).toNat : Int)) := by
  have h := r_conv (P := P) (E := E) (N := N) (H := H) ho hx hs ht
  have e : IntKind.u64.wrap (a.toNat : Int) = ((a.toUInt64).toNat : Int) := by
    have h1 := a.toNat_lt
    rw [wrm64 _ (Int.natCast_nonneg _), UInt32.toNat_toUInt64]
    simp
    try omega
  rwa [e] at h

theorem r_wIto32 {m : Int} {D : TypeDesc} {kk : IntKind} (ho : o.op = .convert S T x) (hx : evL L x = some (.int kk m)) (hs : P.underlying S = some D) (ht : P.underlying T = some (.int .u32)) (h0 : 0 ≤ m) : Run P E N L H o (.int .u32 ((UInt32.ofNat m.toNat).toNat : Int)) := by
  have h := r_conv (P := P) (E := E) (N := N) (H := H) ho hx hs ht
  have e : IntKind.u32.wrap m = ((UInt32.ofNat m.toNat).toNat : Int) := by
    rw [wrm32 _ h0, UInt32.toNat_ofNat']
  rwa [e] at h

theorem r_w64to8 {a : UInt64} {D : TypeDesc} (ho : o.op = .convert S T x) (hx : evL L x = some (.int .u64 (a.toNat : Int))) (hs : P.underlying S = some D) (ht : P.underlying T = some (.int .u8)) : Run P E N L H o (.int .u8 ((a.toUInt8).toNat : Int)) := by
  have h := r_conv (P := P) (E := E) (N := N) (H := H) ho hx hs ht
  have e : IntKind.u8.wrap (a.toNat : Int) = ((a.toUInt8).toNat : Int) := by
    have h1 := a.toNat_lt
    rw [wrm8 _ (Int.natCast_nonneg _), UInt64.toNat_toUInt8]
    simp
    try omega
  rwa [e] at h

theorem r_w64to32 {a : UInt64} {D : TypeDesc} (ho : o.op = .convert S T x) (hx : evL L x = some (.int .u64 (a.toNat : Int))) (hs : P.underlying S = some D) (ht : P.underlying T = some (.int .u32)) : Run P E N L H o (.int .u32 ((a.toUInt32).toNat : Int)) := by
  have h := r_conv (P := P) (E := E) (N := N) (H := H) ho hx hs ht
  have e : IntKind.u32.wrap (a.toNat : Int) = ((a.toUInt32).toNat : Int) := by
    have h1 := a.toNat_lt
    rw [wrm32 _ (Int.natCast_nonneg _), UInt64.toNat_toUInt32]
    simp
    try omega
  rwa [e] at h

theorem r_wIto64 {m : Int} {D : TypeDesc} {kk : IntKind} (ho : o.op = .convert S T x) (hx : evL L x = some (.int kk m)) (hs : P.underlying S = some D) (ht : P.underlying T = some (.int .u64)) (h0 : 0 ≤ m) : Run P E N L H o (.int .u64 ((UInt64.ofNat m.toNat).toNat : Int)) := by
  have h := r_conv (P := P) (E := E) (N := N) (H := H) ho hx hs ht
  have e : IntKind.u64.wrap m = ((UInt64.ofNat m.toNat).toNat : Int) := by
    rw [wrm64 _ h0, UInt64.toNat_ofNat']
  rwa [e] at h

theorem r_wNto8 {m : Nat} {D : TypeDesc} {kk : IntKind} (ho : o.op = .convert S T x) (hx : evL L x = some (.int kk (m : Int))) (hs : P.underlying S = some D) (ht : P.underlying T = some (.int .u8)) : Run P E N L H o (.int .u8 ((UInt8.ofNat m).toNat : Int)) := by
  have h := r_wIto8 (P := P) (E := E) (N := N) (H := H) ho hx hs ht (Int.natCast_nonneg _)
  rwa [Int.toNat_natCast] at h

theorem r_wNto32 {m : Nat} {D : TypeDesc} {kk : IntKind} (ho : o.op = .convert S T x) (hx : evL L x = some (.int kk (m : Int))) (hs : P.underlying S = some D) (ht : P.underlying T = some (.int .u32)) : Run P E N L H o (.int .u32 ((UInt32.ofNat m).toNat : Int)) := by
  have h := r_wIto32 (P := P) (E := E) (N := N) (H := H) ho hx hs ht (Int.natCast_nonneg _)
  rwa [Int.toNat_natCast] at h

theorem r_wNto64 {m : Nat} {D : TypeDesc} {kk : IntKind} (ho : o.op = .convert S T x) (hx : evL L x = some (.int kk (m : Int))) (hs : P.underlying S = some D) (ht : P.underlying T = some (.int .u64)) : Run P E N L H o (.int .u64 ((UInt64.ofNat m).toNat : Int)) := by
  have h := r_wIto64 (P := P) (E := E) (N := N) (H := H) ho hx hs ht (Int.natCast_nonneg _)
  rwa [Int.toNat_natCast] at h

end Go.Sal
