import Derived.Test.YtbiailfegepeaaaSpec2
import Derived.Test.YtbiailfegepeaaaSort
import Derived.WalkKit
import Derived.ProofKit
import Derived.Test.YtbiailfegepeaaaShelf
namespace Go.Proofs
open Go.Shelf Go.RowKit Go.Lib Go.Sort Go.Sal

theorem Try.isNaNs (x : ByteArray) (w : World) : Calls Try.prog 53 #[.string x] w fun e w' => e = .returned (.bool false) ∧ w' = w := by
  go_enter Try.func53, Try.ntmps53
  go_wp2
  go_ret
  refine ⟨?_, rfl⟩
  simp

theorem run_gtr_str {P : Program} {T : TypeId} (x y : ByteArray) (w : World) : (binOp .gtr T (.string x) (.string y)).run P w = .ok (.bool (!(strLt x y || decide (x = y)))) w := by
  simp only [binOp, Op.stringOp, strLt, beq_toList]
  simp

def cmpStr (x y : ByteArray) : Int := if strLt x y then -1 else if x = y then 0 else 1

set_option maxHeartbeats 1000000 in
theorem Try.compares (x y : ByteArray) (w : World) : Calls Try.prog 29 #[.string x, .string y] w fun e w' => e = .returned (.int .i64 (cmpStr x y)) ∧ w' = w := by
  go_enter Try.func29, Try.ntmps29
  go_wp2_with (go_at_call 53; refine (Try.isNaNs _ _).mono ?_; rintro e w' ⟨rfl, hw⟩; rw [hw])
  · go_ret
    refine ⟨?_, rfl⟩
    rename_i h
    simp [cmpStr, strLt, h]
  · rename_i h _ _ _ _ _ _
    rw [run_gtr_str]
    go_wp2
    all_goals go_ret
    all_goals refine ⟨?_, rfl⟩
    all_goals rename_i h2
    all_goals have h' : strLt x y = false := h
    · simp at h2
      simp [cmpStr, h', h2.2]
    · rw [h'] at h2
      simp at h2
      subst h2
      simp [cmpStr, h']

/-- A row's order: by the path. -/
def cmpFL (x y : File × FileL) : Int := cmpStr x.1.path y.1.path
instance : Inhabited (File × FileL) := ⟨FD.zero⟩
theorem ltFL (x y : File × FileL) : ltOf cmpFL x y = strLt x.1.path y.1.path := by
  unfold ltOf cmpFL cmpStr
  cases h : strLt x.1.path y.1.path
  · by_cases e : x.1.path = y.1.path <;> simp [e]
  · simp
theorem swoFL : SWO (ltOf cmpFL) where
  irrefl x := by rw [ltFL]; exact strLt_irrefl _
  trans x y z h1 h2 := by rw [ltFL] at *; exact strLt_trans h1 h2
  ntrans x y z h1 h2 := by
    rw [ltFL] at *
    cases h : strLt x.1.path z.1.path
    · rfl
    · cases h3 : strLt y.1.path x.1.path
      · rw [strLt_total h1 h3] at h; rw [h] at h2; cases h2
      · have := strLt_trans h3 h; rw [this] at h2; cases h2

set_option maxHeartbeats 1000000 in
theorem Try.closure28 (x y : File × FileL) (W : World) : Calls Try.prog 28 #[.agg (encFL x).toArray, .agg (encFL y).toArray] W fun e w' => e = .returned (.int .i64 (cmpFL x y)) ∧ ∃ q os', w' = grow (W.drewN q) os' := by
  have hcon := fun W' => Try.compares x.1.path y.1.path W'
  unfold cmpFL
  generalize cmpStr x.1.path y.1.path = r at hcon ⊢
  unfold encFL encFile
  go_enter Try.func28, Try.ntmps28
  go_wp2_with (go_at_call 29; refine (hcon _).mono ?_; rintro e w' ⟨rfl, rfl⟩)
  go_ret
  exact ⟨rfl, 0, _, by rw [alloc_eq_grow, alloc_eq_grow, grow_grow]; rfl⟩

theorem Try.cmpLays28 (blk off size : Nat) (w : World) : CmpLays Try.prog 28 #[] encFL 4 cmpFL blk off size w :=
  fun _ _ _ _ x y => Try.closure28 x y _

theorem Try.enter28 : ∀ args w, (callFunc 28 args).run Try.prog w = .ok (.enter 28 args) w := enters_of Try.func28 (by kernel_rfl) rfl

/-- slices.SortFunc over files: by their paths. -/
theorem sortFiles_c {E : Env} {H : Heap} {v : Value} {l : List (File × FileL)} {X : Heap} (ho : Own 4 48 v (l.map encFL) X) (hlen : l.length < 4611686018427387904) :
    Go.Sal.Fn Try.prog 27 [v, .func (.func 28) #[] #[]] E (X ++ H) (fun u H2 => u = .tuple #[] ∧ ∃ (l' : List (File × FileL)) (X' : Heap), l'.Perm l ∧ l'.Pairwise (fun x y => strLt y.1.path x.1.path = false) ∧ Own 4 48 v (l'.map encFL) X' ∧ H2 = X' ++ H) := by
  have h := fn_sort (E := E) (H := H) Try.sortFiles Try.isAgg48 Try.sizeOf48 (enc := encFL) (fun _ => rfl) (fun x v hv => by
    simp [encFL, encFile] at hv; rcases hv with rfl | rfl | rfl | rfl <;> rfl) swoFL Try.enter28 Try.cmpLays28 ho hlen
  change Go.Sal.Fn Try.prog 27 _ _ _ _ at h
  refine h.mono ?_
  rintro u H2 ⟨hu, l', X', hp, hs, hO, hH⟩
  exact ⟨hu, l', X', hp, hs.imp (fun {a b} h => by rw [← ltFL]; exact h), hO, hH⟩
end Go.Proofs
