/- NamesFoldsSaid: what records make of no files, up to the first that cannot be done, is what the document says. No condition. -/
import Derived.Test.YtbiailfegepeaaaRead
import Derived.Test.YtbiailfegepeaaaN3
import Derived.Test.YtbiailfegepeaaaRows
set_option linter.unusedVariables false
namespace Go.Sal.Nm
open Go Go.Sal Go.Proofs
theorem kinds : Kinds Try.prog 43 5 3 66 44 46 9 (fsOf Try.prog 66) (fsOf Try.prog 46) := ⟨Try.underlying43, Try.underlying5, Try.underlying3, by kernel_rfl, Try.underlying44, by kernel_rfl, Try.underlying9, by kernel_rfl, by kernel_rfl, by kernel_rfl, by kernel_rfl, by kernel_rfl, by kernel_rfl, by kernel_rfl, by kernel_rfl, by kernel_rfl⟩
end Go.Sal.Nm
namespace Go.Proofs.Ytbiailfegepeaaa.namesFolds
open Go.ChangeShapes Go.WideShapes Go.ChangeAt Go.RowKit Go.Sal Go.Sal.Nm
theorem own : ownKnob Try.prog.godebug = none := by kernel_rfl

set_option maxRecDepth 100000 in
theorem contract (H : Type) (enc : TypeId × Value → H) (W : World) (base : Nat) (args : Array Value) (ds gs : List (DataW H)) (before : List MemPlace)
    (hval : ∀ (j : Nat) t v, Try.f3.params[j]? = some t → args[j]? = some v → Value.okWide Try.prog W .any base t v)
    (hW : DataW.Whole enc Try.prog Try.f3.params.toList Rows.namesFoldsSpec.vars false W args.toList ds gs before) :
    Calls Try.prog 3 args W fun e W' => ∃ v, e = .returned v ∧ Rows.namesFoldsSpec.post enc Try.prog Try.f3 false true false false W args v W' := by
  have hW' := hW
  obtain ⟨p, q, hA0, hV, rfl, hfz, hnd⟩ := hW
  have hA : DataW.TrodAll enc Try.prog W 0 (fun _ => true) true Try.f3.params.toList args.toList ds p := hA0
  rw [Try.params3] at hA hval
  obtain ⟨v0, vs0, d0, ds0, p0, q0, hargs, rfl, rfl, h0, r0⟩ := trodAll_cons hA
  obtain ⟨hvn, rfl, rfl⟩ := trodAll_nil r0
  obtain rfl : args = #[v0] := by cases args; simp_all
  obtain ⟨rfl, rfl⟩ := trodVars_none hV
  obtain ⟨sa, sn, sc, hvr⟩ := okWide_slice Try.underlying22 (hval 0 22 v0 rfl rfl)
  subst hvr
  obtain ⟨a1, n1, c1, rl, hx0, hrl, hra, hcm⟩ := read_sliceAt (en := encRecP) (R := fun x : RP2 => SliceAt (allBlocks W) encPiece 33 x.1.pa x.1.pn x.1.pc x.2) (reads_of h0) Try.underlying22 kinds.cR (by omega) (fun xs hxs => let ⟨x, hx, _, hs⟩ := kinds.readRec Try.underlying40 (by kernel_rfl) Try.underlying3 (by kernel_rfl) (by kernel_rfl) (by kernel_rfl) (by kernel_rfl) (by kernel_rfl) (by kernel_rfl) (by kernel_rfl) (by kernel_rfl) hxs; ⟨x, hx, hs⟩)
  have hx1 : Value.slice sa sn sc = .slice a1 n1 c1 := by simpa [Value.cells] using hx0
  injection hx1 with e1 e2 e3
  subst e1
  subst e2
  subst e3
  have hcap := hrl.cap
  have hmx : maxLen ≤ 9223372036854775807 := by decide
  refine (calls_of_fn (folds_c (D := allBlocks W) (fun p hp => hp) hrl hra (by omega))).mono fun e W' ⟨he, hg⟩ => ⟨_, he, post_true (tb := 4) (by kernel_rfl) (by kernel_rfl) (by kernel_rfl) (by kernel_rfl) hW' rfl rfl Try.underlying4 rfl hg⟩

set_option maxRecDepth 100000 in
theorem lifted (os : Os) (started : os.Started) (H : Type) (enc : TypeId × Value → H) :
    ReturnsInHanded {} Try.checked os 3 .any (Rows.namesFoldsSpec.pre6 enc Try.prog Try.f3 Rows.namesFoldsRow.domain false) (Rows.namesFoldsSpec.post enc Try.prog Try.f3 false true false false) := by
  refine returnsInHanded_of_change (C := Try.checked) own started (by kernel_rfl) Try.func3
    (ChangeSpec.witness6 (enc := enc) (C := Try.checked) false ⟨#[], #[.slice none 0 0], []⟩ 8 (by kernel_rfl) (by kernel_rfl) (by kernel_rfl) (by kernel_rfl)) ?_
  intro W base args ds gs before hval hW _ _
  exact contract H enc W base args ds gs before hval hW

theorem over : Rows.namesFoldsRow.holds Try.pinned (OpenSpec.ofChange Rows.namesFoldsSpec) :=
  OpenClaim.holds_of_wide 3 Try.f3 rfl rfl rfl rfl rfl rfl rfl ⟨rfl, rfl, rfl, rfl, rfl⟩ rfl rfl rfl rfl rfl (by kernel_rfl) Try.func3 (by kernel_rfl)
    (of_decide_eq_true (by kernel_rfl)) (by unfold Func.isWrapper; first | (rw [if_pos (by decide +kernel)]; kernel_rfl) | (rw [if_neg (by decide +kernel)]; exact ⟨rfl, rfl⟩))
    (fun os started H enc _ => lifted os started H enc)

theorem proved : Rows.NamesFoldsSaid := over
end Go.Proofs.Ytbiailfegepeaaa.namesFolds
