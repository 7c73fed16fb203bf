/- ShipTurnsSaid: who is sent what is missing, some at a time, has all after so many turns. No condition. -/
import Derived.Test.YtpahhlbgomcnjaaRead
import Derived.Test.YtpahhlbgomcnjaaS6
import Derived.Test.YtpahhlbgomcnjaaRows
set_option linter.unusedVariables false
namespace Go.Proofs.Ytpahhlbgomcnjaa.shipTurns
open Go.ChangeShapes Go.WideShapes Go.ChangeAt Go.RowKit Go.Sal
theorem own : ownKnob Try.prog.godebug = none := by kernel_rfl

set_option maxRecDepth 100000 in
theorem contract (H : Type) (enc : TypeId × Value → H) (W : World) (base : Nat) (args : Array Value) (ds gs : List (DataW H)) (before : List MemPlace)
    (hval : ∀ (j : Nat) t v, Try.f4.params[j]? = some t → args[j]? = some v → Value.okWide Try.prog W .any base t v)
    (hW : DataW.Whole enc Try.prog Try.f4.params.toList Rows.shipTurnsSpec.vars false W args.toList ds gs before) :
    Calls Try.prog 4 args W fun e W' => ∃ v, e = .returned v ∧ Rows.shipTurnsSpec.post enc Try.prog Try.f4 false true false false W args v W' := by
  have hW' := hW
  obtain ⟨p, q, hA0, hV, rfl, hfz, hnd⟩ := hW
  have hA : DataW.TrodAll enc Try.prog W 0 (fun _ => true) true Try.f4.params.toList args.toList ds p := hA0
  rw [Try.params4] at hA hval
  obtain ⟨v0, vs0, d0, ds0, p0, q0, hargs, rfl, rfl, h0, r0⟩ := trodAll_cons hA
  obtain ⟨v1, vs1, d1, ds1, p1, q1, hv1, rfl, rfl, h1, r1⟩ := trodAll_cons r0
  obtain ⟨v2, vs2, d2, ds2, p2, q2, hv2, rfl, rfl, h2, r2⟩ := trodAll_cons r1
  obtain ⟨hvn, rfl, rfl⟩ := trodAll_nil r2
  obtain rfl : args = #[v0, v1, v2] := by cases args; simp_all
  obtain ⟨rfl, rfl⟩ := trodVars_none hV
  obtain ⟨sa0, sn0, sc0, hvr0⟩ := okWide_slice Try.underlying22 (hval 0 22 v0 rfl rfl)
  subst hvr0
  obtain ⟨a0, n0, c0, l0, hx0, hl0, -, hm0⟩ := read_sliceAt (en := encDig) (R := fun _ => True) (reads_of h0) Try.underlying22 (show Try.prog.cellsOf 30 = 32 by kernel_rfl) (by omega) (fun xs hxs => let ⟨x, hx⟩ := read_dig hxs Try.underlying30 Try.underlying5 (by kernel_rfl) (by kernel_rfl); ⟨x, hx, trivial⟩)
  have hy0 : Value.slice sa0 sn0 sc0 = .slice a0 n0 c0 := by simpa [Value.cells] using hx0
  injection hy0 with e1 e2 e3
  subst e1
  subst e2
  subst e3
  obtain ⟨sa1, sn1, sc1, hvr1⟩ := okWide_slice Try.underlying22 (hval 1 22 v1 rfl rfl)
  subst hvr1
  obtain ⟨a1, n1, c1, l1, hx1, hl1, -, hm1⟩ := read_sliceAt (en := encDig) (R := fun _ => True) (reads_of h1) Try.underlying22 (show Try.prog.cellsOf 30 = 32 by kernel_rfl) (by omega) (fun xs hxs => let ⟨x, hx⟩ := read_dig hxs Try.underlying30 Try.underlying5 (by kernel_rfl) (by kernel_rfl); ⟨x, hx, trivial⟩)
  have hy1 : Value.slice sa1 sn1 sc1 = .slice a1 n1 c1 := by simpa [Value.cells] using hx1
  injection hy1 with e1 e2 e3
  subst e1
  subst e2
  subst e3
  obtain ⟨k, rfl⟩ := okWide_int Try.underlying5 (hval 2 5 v2 rfl rfl)
  obtain ⟨q, hq⟩ := read_u8 (reads_of h2) Try.underlying5
  obtain rfl : k = (q.toNat : Int) := by simpa [Value.cells] using hq
  refine (calls_of_fn (Go.Sal.Sh.shipTurns_c hl0 hl1 (by omega) (by have := UInt8.toNat_lt q; omega))).mono fun e W' ⟨he, hg⟩ => ⟨_, he, post_true (tb := 4) (by kernel_rfl) (by kernel_rfl) (by kernel_rfl) (by kernel_rfl) hW' rfl rfl Try.underlying4 rfl hg⟩

set_option maxRecDepth 100000 in
theorem lifted (os : Os) (started : os.Started) (H : Type) (enc : TypeId × Value → H) :
    ReturnsInHanded {} Try.checked os 4 .any (Rows.shipTurnsSpec.pre6 enc Try.prog Try.f4 Rows.shipTurnsRow.domain false) (Rows.shipTurnsSpec.post enc Try.prog Try.f4 false true false false) := by
  refine returnsInHanded_of_change (C := Try.checked) own started (by kernel_rfl) Try.func4
    (ChangeSpec.witness6 (enc := enc) (C := Try.checked) false ⟨#[], #[.slice none 0 0, .slice none 0 0, .int .u8 0], []⟩ 8 (by kernel_rfl) (by kernel_rfl) (by kernel_rfl) (by kernel_rfl)) ?_
  intro W base args ds gs before hval hW _ _
  exact contract H enc W base args ds gs before hval hW

theorem over : Rows.shipTurnsRow.holds Try.pinned (OpenSpec.ofChange Rows.shipTurnsSpec) :=
  OpenClaim.holds_of_wide 4 Try.f4 rfl rfl rfl rfl rfl rfl rfl ⟨rfl, rfl, rfl, rfl, rfl⟩ rfl rfl rfl rfl rfl (by kernel_rfl) Try.func4 (by kernel_rfl)
    (of_decide_eq_true (by kernel_rfl)) (by unfold Func.isWrapper; first | (rw [if_pos (by decide +kernel)]; kernel_rfl) | (rw [if_neg (by decide +kernel)]; exact ⟨rfl, rfl⟩))
    (fun os started H enc _ => lifted os started H enc)

theorem proved : Rows.ShipTurnsSaid := over
end Go.Proofs.Ytpahhlbgomcnjaa.shipTurns
