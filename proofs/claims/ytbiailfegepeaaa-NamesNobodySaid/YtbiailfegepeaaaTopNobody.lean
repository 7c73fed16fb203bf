/- NamesNobodySaid: a namespace that nobody made has nothing, whatever the record and the path. No condition. -/
import Derived.Test.YtbiailfegepeaaaRead
import Derived.Test.YtbiailfegepeaaaN1
import Derived.Test.YtbiailfegepeaaaRows
set_option linter.unusedVariables false
namespace Go.Sal.Nm
open Go Go.Sal Go.Proofs
theorem kinds : Kinds Try.prog 43 5 3 66 44 46 9 (fsOf Try.prog 66) (fsOf Try.prog 46) := ⟨Try.underlying43, Try.underlying5, Try.underlying3, by kernel_rfl, Try.underlying44, by kernel_rfl, Try.underlying9, by kernel_rfl, by kernel_rfl, by kernel_rfl, by kernel_rfl, by kernel_rfl, by kernel_rfl, by kernel_rfl, by kernel_rfl, by kernel_rfl⟩
end Go.Sal.Nm
namespace Go.Proofs.Ytbiailfegepeaaa.namesNobody
open Go.ChangeShapes Go.WideShapes Go.ChangeAt Go.RowKit Go.Sal Go.Sal.Nm
theorem own : ownKnob Try.prog.godebug = none := by kernel_rfl

set_option maxRecDepth 100000 in
theorem contract (H : Type) (enc : TypeId × Value → H) (W : World) (base : Nat) (args : Array Value) (ds gs : List (DataW H)) (before : List MemPlace)
    (hval : ∀ (j : Nat) t v, Try.f6.params[j]? = some t → args[j]? = some v → Value.okWide Try.prog W .any base t v)
    (hW : DataW.Whole enc Try.prog Try.f6.params.toList Rows.namesNobodySpec.vars false W args.toList ds gs before) :
    Calls Try.prog 6 args W fun e W' => ∃ v, e = .returned v ∧ Rows.namesNobodySpec.post enc Try.prog Try.f6 false true false false W args v W' := by
  have hW' := hW
  obtain ⟨p, q, hA0, hV, rfl, hfz, hnd⟩ := hW
  have hA : DataW.TrodAll enc Try.prog W 0 (fun _ => true) true Try.f6.params.toList args.toList ds p := hA0
  rw [Try.params6] at hA hval
  obtain ⟨v0, vs0, d0, ds0, p0, q0, hargs, rfl, rfl, h0, r0⟩ := trodAll_cons hA
  obtain ⟨v1, vs1, d1, ds1, p1, q1, hv1, rfl, rfl, h1, r1⟩ := trodAll_cons r0
  obtain ⟨hvn, rfl, rfl⟩ := trodAll_nil r1
  obtain rfl : args = #[v0, v1] := by cases args; simp_all
  obtain ⟨rfl, rfl⟩ := trodVars_none hV
  obtain ⟨cs0, rfl, _⟩ := okWide_struct Try.underlying46 (hval 0 46 v0 rfl rfl)
  obtain ⟨x0, hx0, hw0, hs0⟩ := kinds.readRec Try.underlying40 (by kernel_rfl) Try.underlying3 (by kernel_rfl) (by kernel_rfl) (by kernel_rfl) (by kernel_rfl) (by kernel_rfl) (by kernel_rfl) (by kernel_rfl) (by kernel_rfl) (reads_of h0)
  obtain rfl : cs0 = (encRec x0.1).toArray := by rw [← hx0]; simp [Value.cells]
  obtain ⟨k, rfl⟩ := okWide_string Try.underlying9 (hval 1 9 v1 rfl rfl)
  refine (calls_of_fn (nobody_c (r := x0.1) (k := k))).mono fun e W' ⟨he, hg⟩ => ⟨_, he, post_true (tb := 4) (by kernel_rfl) (by kernel_rfl) (by kernel_rfl) (by kernel_rfl) hW' rfl rfl Try.underlying4 rfl hg⟩

set_option maxRecDepth 100000 in
theorem lifted (os : Os) (started : os.Started) (H : Type) (enc : TypeId × Value → H) :
    ReturnsInHanded {} Try.checked os 6 .any (Rows.namesNobodySpec.pre6 enc Try.prog Try.f6 Rows.namesNobodyRow.domain false) (Rows.namesNobodySpec.post enc Try.prog Try.f6 false true false false) := by
  refine returnsInHanded_of_change (C := Try.checked) own started (by kernel_rfl) Try.func6
    (ChangeSpec.witness6 (enc := enc) (C := Try.checked) false ⟨#[], #[.agg ((encRec Rec.zero).toArray), .string ⟨#[]⟩], []⟩ 8 (by kernel_rfl) (by kernel_rfl) (by kernel_rfl) (by kernel_rfl)) ?_
  intro W base args ds gs before hval hW _ _
  exact contract H enc W base args ds gs before hval hW

theorem over : Rows.namesNobodyRow.holds Try.pinned (OpenSpec.ofChange Rows.namesNobodySpec) :=
  OpenClaim.holds_of_wide 6 Try.f6 rfl rfl rfl rfl rfl rfl rfl ⟨rfl, rfl, rfl, rfl, rfl⟩ rfl rfl rfl rfl rfl (by kernel_rfl) Try.func6 (by kernel_rfl)
    (of_decide_eq_true (by kernel_rfl)) (by unfold Func.isWrapper; first | (rw [if_pos (by decide +kernel)]; kernel_rfl) | (rw [if_neg (by decide +kernel)]; exact ⟨rfl, rfl⟩))
    (fun os started H enc _ => lifted os started H enc)

theorem proved : Rows.NamesNobodySaid := over
end Go.Proofs.Ytbiailfegepeaaa.namesNobody
