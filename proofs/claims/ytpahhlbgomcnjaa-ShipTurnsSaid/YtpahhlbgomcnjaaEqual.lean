/- == and != of digests and pieces. -/
import Derived.Test.YtpahhlbgomcnjaaRead
import Derived.DeepKeys
namespace Go.Sal
set_option linter.unusedVariables false
variable {P : Program} {E : Env} {N : Nat} {L : List (Nat × Value)} {H : Heap} {o : Oper} {x y : Operand}

theorem run_equal_lits {T : TypeId} {m : Nat} {u v : Value} {la lb : List Lit} (hk : P.keyTypeAt m T = true) (hm : m ≤ 10000) (fu : u.formed P T = true) (fv : v.formed P T = true) {D D' : Nat} (ku : P.keyLits D T u.cells.toList = some la) (kv : P.keyLits D' T v.cells.toList = some lb)
    {p : Prop} [Decidable p] (hp : la = lb ↔ p) (w : World) : (Op.equal T u v).run P w = .ok (decide p) w := by
  obtain ⟨r, hr, hi⟩ := run_equalIn_deep (P := P) (10000 - m) m T hk w D D' u v la lb fu fv ku kv
  rw [show 10000 - m + m = 10000 by omega] at hr
  have : r = decide p := by
    cases r
    · have : ¬ p := fun h => by have := hi.2 (hp.2 h); cases this
      simp [this]
    · have : p := hp.1 (hi.1 rfl)
      simp [this]
  rw [← this]
  exact hr

theorem run_eqGuard_agg {op : BinOp} {T : TypeId} {xs ys : Array Value} (hg : P.eqGuardType P.depth T = false) (w : World) : (eqGuard op T x y (.agg xs) (.agg ys)).run P w = .ok () w := by
  unfold eqGuard
  cases op <;> simp [hg]

theorem r_eqDeep {T T' : TypeId} {m : Nat} {xs ys : List Value} {la lb : List Lit} (ho : o.op = .binOp .eql T x y T') (hx : evL L x = some (.agg xs.toArray)) (hy : evL L y = some (.agg ys.toArray)) (hg : P.eqGuardType P.depth T = false)
    (hk : P.keyTypeAt m T = true) (hm : Nat.ble m 10000 = true) (fx : (Value.agg xs.toArray).formed P T = true) (fy : (Value.agg ys.toArray).formed P T = true) {D D' : Nat} (kx : P.keyLits D T xs = some la) (ky : P.keyLits D' T ys = some lb)
    {p : Prop} [Decidable p] (hp : la = lb ↔ p) : Run P E N L H o (.bool (decide p)) := fun a w hL _ => by
  have h := run_equal_lits (P := P) hk (Nat.le_of_ble_eq_true hm) fx fy (D := D) (D' := D') (by simpa [Value.cells] using kx) (by simpa [Value.cells] using ky) hp w
  simp only [execOp, ho, hL.ev hx, hL.ev hy, Sem.run_bind, run_eqGuard_agg hg, Result.andThen_ok, binOp, h, Sem.run_pure]

theorem r_eqSame {T T' : TypeId} {m : Nat} {xs : List Value} (ho : o.op = .binOp .eql T x y T') (hx : evL L x = some (.agg xs.toArray)) (hy : evL L y = some (.agg xs.toArray)) (hg : P.eqGuardType P.depth T = false)
    (hk : P.keyTypeAt m T = true) (hm : Nat.ble m 10000 = true) (fx : (Value.agg xs.toArray).formed P T = true) {D : Nat} (kx : (P.keyLits D T xs).isSome = true) : Run P E N L H o (.bool true) := by
  obtain ⟨la, hla⟩ := Option.isSome_iff_exists.1 kx
  have h := r_eqDeep (E := E) (N := N) (H := H) (p := True) ho hx hy hg hk hm fx fx hla hla (by simp)
  simpa using h

theorem r_neDeep {T T' : TypeId} {m : Nat} {xs ys : List Value} {la lb : List Lit} (ho : o.op = .binOp .neq T x y T') (hx : evL L x = some (.agg xs.toArray)) (hy : evL L y = some (.agg ys.toArray)) (hg : P.eqGuardType P.depth T = false)
    (hk : P.keyTypeAt m T = true) (hm : Nat.ble m 10000 = true) (fx : (Value.agg xs.toArray).formed P T = true) (fy : (Value.agg ys.toArray).formed P T = true) {D D' : Nat} (kx : P.keyLits D T xs = some la) (ky : P.keyLits D' T ys = some lb)
    {p : Prop} [Decidable p] (hp : la = lb ↔ p) : Run P E N L H o (.bool (decide (¬ p))) := fun a w hL _ => by
  have h := run_equal_lits (P := P) hk (Nat.le_of_ble_eq_true hm) fx fy (D := D) (D' := D') (by simpa [Value.cells] using kx) (by simpa [Value.cells] using ky) hp w
  simp only [execOp, ho, hL.ev hx, hL.ev hy, Sem.run_bind, run_eqGuard_agg hg, Result.andThen_ok, binOp, h, Sem.run_pure]
  simp

theorem mapM_some_of {α β : Type} {f : α → Option β} {g : α → β} : ∀ {l : List α}, (∀ a ∈ l, f a = some (g a)) → l.mapM f = some (l.map g)
  | [], _ => rfl
  | a :: l, h => by
    rw [List.mapM_cons, h a (by simp), mapM_some_of (fun b hb => h b (by simp [hb]))]
    rfl

def litU8 (b : UInt8) : Lit := .int .u8 (b.toNat : Int)
theorem litU8_wf (b : UInt8) : (litU8 b).wf = true := by
  have := b.toNat_lt
  simp [litU8, Lit.wf, IntKind.min, IntKind.max, IntKind.signed, IntKind.bits]
  omega
theorem litU8_inj {a b : UInt8} (h : litU8 a = litU8 b) : a = b := by
  simp only [litU8, Lit.int.injEq, true_and] at h
  exact UInt8.toNat_inj.1 (by omega)

def digLits (d : Dig) : List Lit := d.list.map litU8
theorem digLits_inj {a b : Dig} : digLits a = digLits b ↔ a = b :=
  ⟨fun h => Dig.list_inj (List.map_inj_right (fun _ _ h => litU8_inj h) |>.1 h), fun h => by rw [h]⟩

theorem keyLits_dig {tD tB : TypeId} (hD : P.underlying tD = some (.array 32 tB)) (hB : P.underlying tB = some (.int .u8)) (cB : P.cellsOf tB = 1) (cD : P.cellsOf tD = 32) (d : Dig) (n : Nat) : P.keyLits (n + 2) tD (encDig d) = some (digLits d) := by
  unfold Program.keyLits
  rw [hD]
  simp only [cD, encDig_length, if_true, cB, Nat.mul_one]
  have hm := mapM_some_of (f := fun i => P.keyLits (n + 1) tB (((encDig d).drop i).take 1)) (g := fun i => [litU8 (d.list[i]!)]) (l := List.range 32) (fun i hi => by
    have hi' : i < 32 := List.mem_range.1 hi
    have hc : ((encDig d).drop i).take 1 = [.int .u8 ((d.list[i]!).toNat : Int)] := by
      have hl : i < d.list.length := by rw [Dig.list_length]; exact hi'
      have hl2 : i < (encDig d).length := hi'
      rw [List.drop_eq_getElem_cons hl2, List.take_succ_cons, List.take_zero, getElem!_pos d.list i hl]
      have : (encDig d)[i] = (d.list.map u8)[i]'(by rw [List.length_map]; exact hl) := by congr 1
      rw [this, List.getElem_map]
      rfl
    rw [hc]
    unfold Program.keyLits
    rw [hB]
    simp only [true_and]
    exact if_pos (litU8_wf _))
  rw [hm]
  rfl
def pieceLits (p : Piece) : List Lit := digLits p.d ++ [.int .i64 p.n]
theorem pieceLits_inj {a b : Piece} : pieceLits a = pieceLits b ↔ a = b := by
  refine ⟨fun h => ?_, fun h => by rw [h]⟩
  have h2 := List.append_inj' h rfl
  have h3 := digLits_inj.1 h2.1
  simp only [List.cons.injEq, Lit.int.injEq, true_and, and_true] at h2
  cases a; cases b; simp_all
theorem keyLits_i64 {tN : TypeId} (hN : P.underlying tN = some (.int .i64)) {v : Int} (h : -9223372036854775808 ≤ v ∧ v ≤ 9223372036854775807) (n : Nat) : P.keyLits (n + 1) tN [.int .i64 v] = some [.int .i64 v] := by
  unfold Program.keyLits
  rw [hN]
  simp only [true_and]
  rw [if_pos]
  simp [Lit.wf, IntKind.min, IntKind.max, IntKind.signed, IntKind.bits]
  omega
end Go.Sal
