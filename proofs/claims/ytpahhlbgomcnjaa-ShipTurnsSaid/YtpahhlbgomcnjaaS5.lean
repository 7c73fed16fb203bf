/- The walks: printed by a program of this repo (wip/gen). -/
import Derived.Test.YtpahhlbgomcnjaaS4
import Derived.Test.YtpahhlbgomcnjaaStrings
set_option linter.unusedVariables false
set_option linter.unusedSimpArgs false
namespace Go.Sal.Sh
open Go Go.Sal Go.Proofs
set_option maxHeartbeats 2000000 in
set_option maxRecDepth 100000 in
theorem bequal_c {E : Env} {H : Heap} {a : Option Addr} {n c : Nat} {l : List UInt8} (hs : SliceAt H encU8 1 a n c l) {ba : Option Addr} {bn bc : Nat} {m : List UInt8} (hm : SliceAt H encU8 1 ba bn bc m) :
    Fn Try.prog 35 [.slice a n c, .slice ba bn bc] E H (fun v H2 => v = .bool (decide (l = m)) ∧ H2 = H) := by
  refine Fn.of_body (N := 10) Try.func35 rfl rfl rfl ?_
  refine t_seq ?_
  refine t_region ?_
  refine l_op rfl (o_val rfl rfl (r_assign rfl rfl) ?_)
  refine l_nil ?_
  refine e_next ?_
  refine t_seq ?_
  refine t_region ?_
  refine l_op rfl (o_val rfl rfl (r_move rfl rfl) ?_)
  refine l_op rfl (o_val rfl rfl (r_bytesStr rfl rfl Try.underlying37 Try.underlying5 Try.underlying9 (SliceAt.mono hs (fun p hp => hp))) ?_)
  refine l_op rfl (o_val rfl rfl (r_move rfl rfl) ?_)
  refine l_op rfl (o_val rfl rfl (r_bytesStr rfl rfl Try.underlying37 Try.underlying5 Try.underlying9 (SliceAt.mono hm (fun p hp => hp))) ?_)
  refine l_op rfl (o_val rfl rfl (r_seq rfl rfl rfl) ?_)
  refine l_op rfl (o_val rfl rfl (r_assign rfl rfl) ?_)
  refine l_nil ?_
  refine e_next ?_
  refine t_ret ?_
  exact e_ret rfl (.tmp rfl .nil) ⟨congrArg Value.bool (decide_eq_decide.2 (by simp)), rfl⟩

set_option maxHeartbeats 2000000 in
set_option maxRecDepth 100000 in
theorem askSame_c {E : Env} {H : Heap} :
    Fn Try.prog 48 [.agg (([.int .i64 (2), .int .i64 (0), .int .i64 (0)] : List Value) ++ z8 32 ++ ([.int .i64 (300)] : List Value) ++ z8 32 ++ ([.int .i64 (0), .int .i64 (0)] : List Value) ++ z8 32 ++ ([.int .i64 (0), .int .i64 (0), .string ⟨#[]⟩, .slice none 0 0, .slice none 0 0, .slice none 0 0] : List Value)).toArray, .agg (([.int .i64 (2), .int .i64 (0), .int .i64 (0)] : List Value) ++ z8 32 ++ ([.int .i64 (300)] : List Value) ++ z8 32 ++ ([.int .i64 (0), .int .i64 (0)] : List Value) ++ z8 32 ++ ([.int .i64 (0), .int .i64 (0), .string ⟨#[]⟩, .slice none 0 0, .slice none 0 0, .slice none 0 0] : List Value)).toArray] E H (fun v H2 => v = .bool true ∧ ∃ X, H2 = X ++ H) := by
  refine Fn.of_body (N := 52) Try.func48 rfl rfl rfl ?_
  refine t_seq ?_
  refine t_region ?_
  refine l_op rfl (o_box rfl rfl rfl rfl rfl ?_)
  intro b1
  refine l_op rfl (o_box rfl rfl rfl rfl rfl ?_)
  intro b2
  refine l_op rfl (o_val rfl rfl (r_assign rfl rfl) ?_)
  refine l_nil ?_
  refine e_next ?_
  refine t_seq ?_
  refine t_region ?_
  refine l_op rfl (o_val rfl rfl (r_fieldAddr (k := 0) rfl rfl Try.underlying49 rfl Try.sizeOf41 rfl rfl) ?_)
  refine l_op rfl (o_val rfl rfl (r_load (v := .int .i64 (2)) rfl Try.isAgg41 rfl (List.mem_cons_of_mem _ List.mem_cons_self) rfl) ?_)
  refine l_op rfl (o_val rfl rfl (r_fieldAddr (k := 0) rfl rfl Try.underlying49 rfl Try.sizeOf41 rfl rfl) ?_)
  refine l_op rfl (o_val rfl rfl (r_load (v := .int .i64 (2)) rfl Try.isAgg41 rfl List.mem_cons_self rfl) ?_)
  refine l_op rfl (o_val rfl rfl (Run.eq (v' := .bool true) (r_eq rfl rfl rfl) (by rfl)) ?_)
  refine l_op rfl (o_val rfl rfl (r_move rfl rfl) ?_)
  refine l_yes rfl rfl rfl (o_val rfl rfl (r_fieldAddr (k := 1) rfl rfl Try.underlying49 rfl Try.sizeOf43 rfl rfl) ?_)
  refine l_yes rfl rfl rfl (o_val rfl rfl (r_loadAgg (xs := ([.int .i64 (0), .int .i64 (0)] : List Value) ++ z8 32) rfl Try.isAgg43 Try.sizeOf43 rfl (List.mem_cons_of_mem _ List.mem_cons_self) (At.sub (ys := ([.int .i64 (0), .int .i64 (0)] : List Value) ++ z8 32) (At.self _) 1 rfl) rfl) ?_)
  refine l_yes rfl rfl rfl (o_val rfl rfl (r_fieldAddr (k := 1) rfl rfl Try.underlying49 rfl Try.sizeOf43 rfl rfl) ?_)
  refine l_yes rfl rfl rfl (o_val rfl rfl (r_loadAgg (xs := ([.int .i64 (0), .int .i64 (0)] : List Value) ++ z8 32) rfl Try.isAgg43 Try.sizeOf43 rfl List.mem_cons_self (At.sub (ys := ([.int .i64 (0), .int .i64 (0)] : List Value) ++ z8 32) (At.self _) 1 rfl) rfl) ?_)
  refine l_yes rfl rfl rfl (o_val rfl rfl (r_eqSame (m := 4) (D := 4) rfl rfl rfl (by kernel_rfl) (by kernel_rfl) rfl (by kernel_rfl) (by kernel_rfl)) ?_)
  refine l_op rfl (o_val rfl rfl (r_pickt rfl rfl rfl) ?_)
  refine l_op rfl (o_val rfl rfl (r_move rfl rfl) ?_)
  refine l_yes rfl rfl rfl (o_val rfl rfl (r_fieldAddr (k := 35) rfl rfl Try.underlying49 rfl Try.sizeOf3 rfl rfl) ?_)
  refine l_yes rfl rfl rfl (o_val rfl rfl (r_load (v := .int .i64 (300)) rfl Try.isAgg3 rfl (List.mem_cons_of_mem _ List.mem_cons_self) rfl) ?_)
  refine l_yes rfl rfl rfl (o_val rfl rfl (r_fieldAddr (k := 35) rfl rfl Try.underlying49 rfl Try.sizeOf3 rfl rfl) ?_)
  refine l_yes rfl rfl rfl (o_val rfl rfl (r_load (v := .int .i64 (300)) rfl Try.isAgg3 rfl List.mem_cons_self rfl) ?_)
  refine l_yes rfl rfl rfl (o_val rfl rfl (Run.eq (v' := .bool true) (r_eq rfl rfl rfl) (by rfl)) ?_)
  refine l_op rfl (o_val rfl rfl (r_pickt rfl rfl rfl) ?_)
  refine l_op rfl (o_val rfl rfl (r_move rfl rfl) ?_)
  refine l_yes rfl rfl rfl (o_val rfl rfl (r_fieldAddr (k := 36) rfl rfl Try.underlying49 rfl Try.sizeOf30 rfl rfl) ?_)
  refine l_yes rfl rfl rfl (o_val rfl rfl (r_loadAgg (xs := z8 32) rfl Try.isAgg30 Try.sizeOf30 rfl (List.mem_cons_of_mem _ List.mem_cons_self) (At.sub (ys := z8 32) (At.self _) 36 rfl) rfl) ?_)
  refine l_yes rfl rfl rfl (o_val rfl rfl (r_fieldAddr (k := 36) rfl rfl Try.underlying49 rfl Try.sizeOf30 rfl rfl) ?_)
  refine l_yes rfl rfl rfl (o_val rfl rfl (r_loadAgg (xs := z8 32) rfl Try.isAgg30 Try.sizeOf30 rfl List.mem_cons_self (At.sub (ys := z8 32) (At.self _) 36 rfl) rfl) ?_)
  refine l_yes rfl rfl rfl (o_val rfl rfl (r_eqSame (m := 4) (D := 4) rfl rfl rfl (by kernel_rfl) (by kernel_rfl) rfl (by kernel_rfl) (by kernel_rfl)) ?_)
  refine l_op rfl (o_val rfl rfl (r_pickt rfl rfl rfl) ?_)
  refine l_op rfl (o_val rfl rfl (r_move rfl rfl) ?_)
  refine l_yes rfl rfl rfl (o_val rfl rfl (r_fieldAddr (k := 68) rfl rfl Try.underlying49 rfl Try.sizeOf47 rfl rfl) ?_)
  refine l_yes rfl rfl rfl (o_val rfl rfl (r_loadAgg (xs := ([.int .i64 (0), .int .i64 (0)] : List Value) ++ z8 32 ++ ([.int .i64 (0), .int .i64 (0), .string ⟨#[]⟩, .slice none 0 0] : List Value)) rfl Try.isAgg47 Try.sizeOf47 rfl (List.mem_cons_of_mem _ List.mem_cons_self) (At.sub (ys := ([.int .i64 (0), .int .i64 (0)] : List Value) ++ z8 32 ++ ([.int .i64 (0), .int .i64 (0), .string ⟨#[]⟩, .slice none 0 0] : List Value)) (At.self _) 68 rfl) rfl) ?_)
  refine l_yes rfl rfl rfl (o_val rfl rfl (r_fieldAddr (k := 68) rfl rfl Try.underlying49 rfl Try.sizeOf47 rfl rfl) ?_)
  refine l_yes rfl rfl rfl (o_val rfl rfl (r_loadAgg (xs := ([.int .i64 (0), .int .i64 (0)] : List Value) ++ z8 32 ++ ([.int .i64 (0), .int .i64 (0), .string ⟨#[]⟩, .slice none 0 0] : List Value)) rfl Try.isAgg47 Try.sizeOf47 rfl List.mem_cons_self (At.sub (ys := ([.int .i64 (0), .int .i64 (0)] : List Value) ++ z8 32 ++ ([.int .i64 (0), .int .i64 (0), .string ⟨#[]⟩, .slice none 0 0] : List Value)) (At.self _) 68 rfl) rfl) ?_)
  refine l_yes rfl rfl rfl (o_inline (N' := 52) rfl rfl rfl Try.call61 rfl Try.func61 rfl rfl rfl ?_)
  show Then E 52 [(0, .agg (([.int .i64 (0), .int .i64 (0)] : List Value) ++ z8 32 ++ ([.int .i64 (0), .int .i64 (0), .string ⟨#[]⟩, .slice none 0 0] : List Value)).toArray), (1, .agg (([.int .i64 (0), .int .i64 (0)] : List Value) ++ z8 32 ++ ([.int .i64 (0), .int .i64 (0), .string ⟨#[]⟩, .slice none 0 0] : List Value)).toArray)] _ _
  refine t_seq ?_
  refine t_region ?_
  refine l_op rfl (o_box rfl rfl rfl rfl rfl ?_)
  intro b3
  refine l_op rfl (o_box rfl rfl rfl rfl rfl ?_)
  intro b4
  refine l_op rfl (o_val rfl rfl (r_assign rfl rfl) ?_)
  refine l_nil ?_
  refine e_next ?_
  refine t_seq ?_
  refine t_region ?_
  refine l_op rfl (o_val rfl rfl (r_fieldAddr (k := 0) rfl rfl Try.underlying47 rfl Try.sizeOf3 rfl rfl) ?_)
  refine l_op rfl (o_val rfl rfl (r_load (v := .int .i64 (0)) rfl Try.isAgg3 rfl (List.mem_cons_of_mem _ List.mem_cons_self) rfl) ?_)
  refine l_op rfl (o_val rfl rfl (r_fieldAddr (k := 0) rfl rfl Try.underlying47 rfl Try.sizeOf3 rfl rfl) ?_)
  refine l_op rfl (o_val rfl rfl (r_load (v := .int .i64 (0)) rfl Try.isAgg3 rfl List.mem_cons_self rfl) ?_)
  refine l_op rfl (o_val rfl rfl (Run.eq (v' := .bool true) (r_eq rfl rfl rfl) (by rfl)) ?_)
  refine l_op rfl (o_val rfl rfl (r_move rfl rfl) ?_)
  refine l_yes rfl rfl rfl (o_val rfl rfl (r_fieldAddr (k := 1) rfl rfl Try.underlying47 rfl Try.sizeOf3 rfl rfl) ?_)
  refine l_yes rfl rfl rfl (o_val rfl rfl (r_load (v := .int .i64 (0)) rfl Try.isAgg3 rfl (List.mem_cons_of_mem _ List.mem_cons_self) rfl) ?_)
  refine l_yes rfl rfl rfl (o_val rfl rfl (r_fieldAddr (k := 1) rfl rfl Try.underlying47 rfl Try.sizeOf3 rfl rfl) ?_)
  refine l_yes rfl rfl rfl (o_val rfl rfl (r_load (v := .int .i64 (0)) rfl Try.isAgg3 rfl List.mem_cons_self rfl) ?_)
  refine l_yes rfl rfl rfl (o_val rfl rfl (Run.eq (v' := .bool true) (r_eq rfl rfl rfl) (by rfl)) ?_)
  refine l_op rfl (o_val rfl rfl (r_pickt rfl rfl rfl) ?_)
  refine l_op rfl (o_val rfl rfl (r_move rfl rfl) ?_)
  refine l_yes rfl rfl rfl (o_val rfl rfl (r_fieldAddr (k := 2) rfl rfl Try.underlying47 rfl Try.sizeOf30 rfl rfl) ?_)
  refine l_yes rfl rfl rfl (o_val rfl rfl (r_loadAgg (xs := z8 32) rfl Try.isAgg30 Try.sizeOf30 rfl (List.mem_cons_of_mem _ List.mem_cons_self) (At.sub (ys := z8 32) (At.self _) 2 rfl) rfl) ?_)
  refine l_yes rfl rfl rfl (o_val rfl rfl (r_fieldAddr (k := 2) rfl rfl Try.underlying47 rfl Try.sizeOf30 rfl rfl) ?_)
  refine l_yes rfl rfl rfl (o_val rfl rfl (r_loadAgg (xs := z8 32) rfl Try.isAgg30 Try.sizeOf30 rfl List.mem_cons_self (At.sub (ys := z8 32) (At.self _) 2 rfl) rfl) ?_)
  refine l_yes rfl rfl rfl (o_val rfl rfl (r_eqSame (m := 4) (D := 4) rfl rfl rfl (by kernel_rfl) (by kernel_rfl) rfl (by kernel_rfl) (by kernel_rfl)) ?_)
  refine l_op rfl (o_val rfl rfl (r_pickt rfl rfl rfl) ?_)
  refine l_op rfl (o_val rfl rfl (r_move rfl rfl) ?_)
  refine l_yes rfl rfl rfl (o_val rfl rfl (r_fieldAddr (k := 34) rfl rfl Try.underlying47 rfl Try.sizeOf44 rfl rfl) ?_)
  refine l_yes rfl rfl rfl (o_val rfl rfl (r_load (v := .int .i64 (0)) rfl Try.isAgg44 rfl (List.mem_cons_of_mem _ List.mem_cons_self) rfl) ?_)
  refine l_yes rfl rfl rfl (o_val rfl rfl (r_fieldAddr (k := 34) rfl rfl Try.underlying47 rfl Try.sizeOf44 rfl rfl) ?_)
  refine l_yes rfl rfl rfl (o_val rfl rfl (r_load (v := .int .i64 (0)) rfl Try.isAgg44 rfl List.mem_cons_self rfl) ?_)
  refine l_yes rfl rfl rfl (o_val rfl rfl (Run.eq (v' := .bool true) (r_eq rfl rfl rfl) (by rfl)) ?_)
  refine l_op rfl (o_val rfl rfl (r_pickt rfl rfl rfl) ?_)
  refine l_op rfl (o_val rfl rfl (r_move rfl rfl) ?_)
  refine l_yes rfl rfl rfl (o_val rfl rfl (r_fieldAddr (k := 35) rfl rfl Try.underlying47 rfl Try.sizeOf3 rfl rfl) ?_)
  refine l_yes rfl rfl rfl (o_val rfl rfl (r_load (v := .int .i64 (0)) rfl Try.isAgg3 rfl (List.mem_cons_of_mem _ List.mem_cons_self) rfl) ?_)
  refine l_yes rfl rfl rfl (o_val rfl rfl (r_fieldAddr (k := 35) rfl rfl Try.underlying47 rfl Try.sizeOf3 rfl rfl) ?_)
  refine l_yes rfl rfl rfl (o_val rfl rfl (r_load (v := .int .i64 (0)) rfl Try.isAgg3 rfl List.mem_cons_self rfl) ?_)
  refine l_yes rfl rfl rfl (o_val rfl rfl (Run.eq (v' := .bool true) (r_eq rfl rfl rfl) (by rfl)) ?_)
  refine l_op rfl (o_val rfl rfl (r_pickt rfl rfl rfl) ?_)
  refine l_op rfl (o_val rfl rfl (r_move rfl rfl) ?_)
  refine l_yes rfl rfl rfl (o_val rfl rfl (r_fieldAddr (k := 36) rfl rfl Try.underlying47 rfl Try.sizeOf9 rfl rfl) ?_)
  refine l_yes rfl rfl rfl (o_val rfl rfl (r_load (v := .string ⟨#[]⟩) rfl Try.isAgg9 rfl (List.mem_cons_of_mem _ List.mem_cons_self) rfl) ?_)
  refine l_yes rfl rfl rfl (o_val rfl rfl (r_fieldAddr (k := 36) rfl rfl Try.underlying47 rfl Try.sizeOf9 rfl rfl) ?_)
  refine l_yes rfl rfl rfl (o_val rfl rfl (r_load (v := .string ⟨#[]⟩) rfl Try.isAgg9 rfl List.mem_cons_self rfl) ?_)
  refine l_yes rfl rfl rfl (o_val rfl rfl (Run.eq (v' := .bool true) (r_seq rfl rfl rfl) (by simp)) ?_)
  refine l_op rfl (o_val rfl rfl (r_pickt rfl rfl rfl) ?_)
  refine l_op rfl (o_val rfl rfl (r_move rfl rfl) ?_)
  refine l_yes rfl rfl rfl (o_val rfl rfl (r_fieldAddr (k := 37) rfl rfl Try.underlying47 rfl Try.sizeOf45 rfl rfl) ?_)
  refine l_yes rfl rfl rfl (o_val rfl rfl (r_load (v := .slice none 0 0) rfl Try.isAgg45 rfl (List.mem_cons_of_mem _ List.mem_cons_self) rfl) ?_)
  refine l_yes rfl rfl rfl (o_val rfl rfl (r_fieldAddr (k := 37) rfl rfl Try.underlying47 rfl Try.sizeOf45 rfl rfl) ?_)
  refine l_yes rfl rfl rfl (o_val rfl rfl (r_load (v := .slice none 0 0) rfl Try.isAgg45 rfl List.mem_cons_self rfl) ?_)
  refine l_yes rfl rfl rfl (o_inline (N' := 26) rfl rfl rfl Try.call70 rfl Try.func70 rfl rfl rfl ?_)
  show Then E 26 [(0, .slice none 0 0), (1, .slice none 0 0)] _ _
  refine t_seq ?_
  refine t_region ?_
  refine l_op rfl (o_val rfl rfl (r_assign rfl rfl) ?_)
  refine l_nil ?_
  refine e_next ?_
  refine t_seq ?_
  refine t_seq ?_
  refine t_region ?_
  refine l_op rfl (o_val rfl rfl (r_move rfl rfl) ?_)
  refine l_op rfl (o_val rfl rfl (r_len rfl rfl Try.underlying45) ?_)
  refine l_op rfl (o_val rfl rfl (r_move rfl rfl) ?_)
  refine l_op rfl (o_val rfl rfl (r_len rfl rfl Try.underlying45) ?_)
  refine l_op rfl (o_val rfl rfl (Run.eq (v' := .bool false) (r_ne rfl rfl rfl) (by rfl)) ?_)
  refine l_nil ?_
  refine e_next ?_
  refine t_false rfl ?_
  refine t_skip ?_
  refine e_next ?_
  refine t_seq ?_
  refine t_seq ?_
  refine t_region ?_
  refine l_op rfl (o_val rfl rfl (r_move rfl rfl) ?_)
  refine l_op rfl (o_val rfl rfl (r_len rfl rfl Try.underlying45) ?_)
  refine l_op rfl (o_val rfl rfl (r_move rfl rfl) ?_)
  refine l_nil ?_
  refine e_next ?_
  refine t_block ?_
  refine t_unroll 1 ?_
  refine t_round ?_
  refine t_seq ?_
  refine t_region ?_
  refine l_op rfl (o_val rfl rfl (Run.eq (v' := .bool false) (r_lt rfl rfl rfl) (by rfl)) ?_)
  refine l_nil ?_
  refine e_next ?_
  refine t_seq ?_
  refine t_false rfl ?_
  refine t_exit ?_
  refine e_pass_exit ?_
  refine e_pass_exit ?_
  refine e_block_here ?_
  refine e_next ?_
  refine t_seq ?_
  refine t_region ?_
  refine l_op rfl (o_val rfl rfl (r_assign rfl rfl) ?_)
  refine l_nil ?_
  refine e_next ?_
  refine t_ret ?_
  refine e_retT rfl (.tmp rfl .nil) ?_
  refine l_op rfl (o_val rfl rfl (r_pickt rfl rfl rfl) ?_)
  refine l_op rfl (o_val rfl rfl (r_assign rfl rfl) ?_)
  refine l_nil ?_
  refine Then.slots (.cons (t := 4) rfl .nil) ?_
  refine e_next ?_
  refine t_ret ?_
  refine e_retT rfl (.tmp rfl .nil) ?_
  refine l_op rfl (o_val rfl rfl (r_pickt rfl rfl rfl) ?_)
  refine l_op rfl (o_val rfl rfl (r_move rfl rfl) ?_)
  refine l_yes rfl rfl rfl (o_val rfl rfl (r_fieldAddr (k := 106) rfl rfl Try.underlying49 rfl Try.sizeOf22 rfl rfl) ?_)
  refine l_yes rfl rfl rfl (o_val rfl rfl (r_load (v := .slice none 0 0) rfl Try.isAgg22 rfl (List.mem_cons_of_mem _ (List.mem_cons_of_mem _ (List.mem_cons_of_mem _ List.mem_cons_self))) rfl) ?_)
  refine l_yes rfl rfl rfl (o_val rfl rfl (r_fieldAddr (k := 106) rfl rfl Try.underlying49 rfl Try.sizeOf22 rfl rfl) ?_)
  refine l_yes rfl rfl rfl (o_val rfl rfl (r_load (v := .slice none 0 0) rfl Try.isAgg22 rfl (List.mem_cons_of_mem _ (List.mem_cons_of_mem _ List.mem_cons_self)) rfl) ?_)
  refine l_yes rfl rfl rfl (o_inline (N' := 26) rfl rfl rfl Try.call62 rfl Try.func62 rfl rfl rfl ?_)
  show Then E 26 [(0, .slice none 0 0), (1, .slice none 0 0)] _ _
  refine t_seq ?_
  refine t_region ?_
  refine l_op rfl (o_val rfl rfl (r_assign rfl rfl) ?_)
  refine l_nil ?_
  refine e_next ?_
  refine t_seq ?_
  refine t_seq ?_
  refine t_region ?_
  refine l_op rfl (o_val rfl rfl (r_move rfl rfl) ?_)
  refine l_op rfl (o_val rfl rfl (r_len rfl rfl Try.underlying22) ?_)
  refine l_op rfl (o_val rfl rfl (r_move rfl rfl) ?_)
  refine l_op rfl (o_val rfl rfl (r_len rfl rfl Try.underlying22) ?_)
  refine l_op rfl (o_val rfl rfl (Run.eq (v' := .bool false) (r_ne rfl rfl rfl) (by rfl)) ?_)
  refine l_nil ?_
  refine e_next ?_
  refine t_false rfl ?_
  refine t_skip ?_
  refine e_next ?_
  refine t_seq ?_
  refine t_seq ?_
  refine t_region ?_
  refine l_op rfl (o_val rfl rfl (r_move rfl rfl) ?_)
  refine l_op rfl (o_val rfl rfl (r_len rfl rfl Try.underlying22) ?_)
  refine l_op rfl (o_val rfl rfl (r_move rfl rfl) ?_)
  refine l_nil ?_
  refine e_next ?_
  refine t_block ?_
  refine t_unroll 1 ?_
  refine t_round ?_
  refine t_seq ?_
  refine t_region ?_
  refine l_op rfl (o_val rfl rfl (Run.eq (v' := .bool false) (r_lt rfl rfl rfl) (by rfl)) ?_)
  refine l_nil ?_
  refine e_next ?_
  refine t_seq ?_
  refine t_false rfl ?_
  refine t_exit ?_
  refine e_pass_exit ?_
  refine e_pass_exit ?_
  refine e_block_here ?_
  refine e_next ?_
  refine t_seq ?_
  refine t_region ?_
  refine l_op rfl (o_val rfl rfl (r_assign rfl rfl) ?_)
  refine l_nil ?_
  refine e_next ?_
  refine t_ret ?_
  refine e_retT rfl (.tmp rfl .nil) ?_
  refine l_op rfl (o_val rfl rfl (r_pickt rfl rfl rfl) ?_)
  refine l_op rfl (o_val rfl rfl (r_move rfl rfl) ?_)
  refine l_yes rfl rfl rfl (o_val rfl rfl (r_fieldAddr (k := 107) rfl rfl Try.underlying49 rfl Try.sizeOf37 rfl rfl) ?_)
  refine l_yes rfl rfl rfl (o_val rfl rfl (r_load (v := .slice none 0 0) rfl Try.isAgg37 rfl (List.mem_cons_of_mem _ (List.mem_cons_of_mem _ (List.mem_cons_of_mem _ List.mem_cons_self))) rfl) ?_)
  refine l_yes rfl rfl rfl (o_val rfl rfl (r_fieldAddr (k := 107) rfl rfl Try.underlying49 rfl Try.sizeOf37 rfl rfl) ?_)
  refine l_yes rfl rfl rfl (o_val rfl rfl (r_load (v := .slice none 0 0) rfl Try.isAgg37 rfl (List.mem_cons_of_mem _ (List.mem_cons_of_mem _ List.mem_cons_self)) rfl) ?_)
  refine l_yes rfl rfl rfl (o_call rfl rfl rfl Try.call35 rfl (bequal_c (l := ([] : List UInt8)) (m := ([] : List UInt8)) SliceAt.nil SliceAt.nil) ?_)
  rintro _ _ ⟨rfl, he⟩
  rw [he, show decide ((([] : List UInt8) : List UInt8) = ([] : List UInt8)) = true from rfl]
  clear he
  refine l_op rfl (o_val rfl rfl (r_pickt rfl rfl rfl) ?_)
  refine l_op rfl (o_val rfl rfl (r_assign rfl rfl) ?_)
  refine l_nil ?_
  refine Then.slots (.cons (t := 4) rfl .nil) ?_
  refine e_next ?_
  refine t_ret ?_
  exact e_ret rfl (.tmp rfl .nil) ⟨rfl, Pre.ex (.cons (.cons (.cons (.cons .refl))))⟩

set_option maxHeartbeats 2000000 in
set_option maxRecDepth 100000 in
theorem askOnly_c {E : Env} {H : Heap} :
    Fn Try.prog 47 [.agg (([.int .i64 (2), .int .i64 (0), .int .i64 (0)] : List Value) ++ z8 32 ++ ([.int .i64 (300)] : List Value) ++ z8 32 ++ ([.int .i64 (0), .int .i64 (0)] : List Value) ++ z8 32 ++ ([.int .i64 (0), .int .i64 (0), .string ⟨#[]⟩, .slice none 0 0, .slice none 0 0, .slice none 0 0] : List Value)).toArray] E H (fun v H2 => v = .tuple #[.agg (([.int .i64 (2), .int .i64 (0), .int .i64 (0)] : List Value) ++ z8 32 ++ ([.int .i64 (300)] : List Value) ++ z8 32 ++ ([.int .i64 (0), .int .i64 (0)] : List Value) ++ z8 32 ++ ([.int .i64 (0), .int .i64 (0), .string ⟨#[]⟩, .slice none 0 0, .slice none 0 0, .slice none 0 0] : List Value)).toArray, .bool true] ∧ ∃ X, H2 = X ++ H) := by
  refine Fn.of_body (N := 105) Try.func47 rfl rfl rfl ?_
  refine t_seq ?_
  refine t_region ?_
  refine l_op rfl (o_box rfl rfl rfl rfl rfl ?_)
  intro b1
  refine l_op rfl (o_alloc (zs := ([.int .i64 (0), .int .i64 (0), .int .i64 (0)] : List Value) ++ z8 32 ++ ([.int .i64 (0)] : List Value) ++ z8 32 ++ ([.int .i64 (0), .int .i64 (0)] : List Value) ++ z8 32 ++ ([.int .i64 (0), .int .i64 (0), .string ⟨#[]⟩, .slice none 0 0, .slice none 0 0, .slice none 0 0] : List Value)) rfl rfl rfl Try.zeroValue49 (by kernel_rfl) ?_)
  intro b2
  refine l_op rfl (o_val rfl rfl (r_assign rfl rfl) ?_)
  refine l_nil ?_
  refine e_next ?_
  refine t_seq ?_
  refine t_region ?_
  refine l_op rfl (o_val rfl rfl (r_fieldAddr (k := 0) rfl rfl Try.underlying49 rfl Try.sizeOf41 rfl rfl) ?_)
  refine l_op rfl (o_val rfl rfl (r_load (v := .int .i64 (2)) rfl Try.isAgg41 rfl (List.mem_cons_of_mem _ List.mem_cons_self) rfl) ?_)
  refine l_op rfl (o_val rfl rfl (r_build (cells := ([.int .i64 (2), .int .i64 (0), .int .i64 (0)] : List Value) ++ z8 32 ++ ([.int .i64 (0)] : List Value) ++ z8 32 ++ ([.int .i64 (0), .int .i64 (0)] : List Value) ++ z8 32 ++ ([.int .i64 (0), .int .i64 (0), .string ⟨#[]⟩, .slice none 0 0, .slice none 0 0, .slice none 0 0] : List Value)) rfl rfl (by kernel_rfl)) ?_)
  refine l_op rfl (o_alloc (zs := ([.int .i64 (0), .int .i64 (0), .int .i64 (0)] : List Value) ++ z8 32 ++ ([.int .i64 (0)] : List Value) ++ z8 32 ++ ([.int .i64 (0), .int .i64 (0)] : List Value) ++ z8 32 ++ ([.int .i64 (0), .int .i64 (0), .string ⟨#[]⟩, .slice none 0 0, .slice none 0 0, .slice none 0 0] : List Value)) rfl rfl rfl Try.zeroValue49 (by kernel_rfl) ?_)
  intro b3
  refine l_op rfl (o_storeAgg (ys := ([.int .i64 (2), .int .i64 (0), .int .i64 (0)] : List Value) ++ z8 32 ++ ([.int .i64 (0)] : List Value) ++ z8 32 ++ ([.int .i64 (0), .int .i64 (0)] : List Value) ++ z8 32 ++ ([.int .i64 (0), .int .i64 (0), .string ⟨#[]⟩, .slice none 0 0, .slice none 0 0, .slice none 0 0] : List Value)) rfl rfl rfl rfl rfl Try.sizeOf49 .head rfl ?_)
  refine Then.of_eq (H2 := ((b3, .cells (([.int .i64 (2), .int .i64 (0), .int .i64 (0)] : List Value) ++ z8 32 ++ ([.int .i64 (0)] : List Value) ++ z8 32 ++ ([.int .i64 (0), .int .i64 (0)] : List Value) ++ z8 32 ++ ([.int .i64 (0), .int .i64 (0), .string ⟨#[]⟩, .slice none 0 0, .slice none 0 0, .slice none 0 0] : List Value)).toArray 49 (0, 0)) :: ((b2, .cells (([.int .i64 (0), .int .i64 (0), .int .i64 (0)] : List Value) ++ z8 32 ++ ([.int .i64 (0)] : List Value) ++ z8 32 ++ ([.int .i64 (0), .int .i64 (0)] : List Value) ++ z8 32 ++ ([.int .i64 (0), .int .i64 (0), .string ⟨#[]⟩, .slice none 0 0, .slice none 0 0, .slice none 0 0] : List Value)).toArray 49 (0, 0)) :: ((b1, .cells (([.int .i64 (2), .int .i64 (0), .int .i64 (0)] : List Value) ++ z8 32 ++ ([.int .i64 (300)] : List Value) ++ z8 32 ++ ([.int .i64 (0), .int .i64 (0)] : List Value) ++ z8 32 ++ ([.int .i64 (0), .int .i64 (0), .string ⟨#[]⟩, .slice none 0 0, .slice none 0 0, .slice none 0 0] : List Value)).toArray 49 (0, 0)) :: H)))) rfl ?_
  refine l_nil ?_
  refine e_next ?_
  refine t_seq ?_
  refine t_region ?_
  refine l_op rfl (o_val rfl rfl (r_assign rfl rfl) ?_)
  refine l_nil ?_
  refine e_next ?_
  refine t_seq ?_
  refine t_seq ?_
  refine t_region ?_
  refine l_op rfl (o_val rfl rfl (r_fieldAddr (k := 0) rfl rfl Try.underlying49 rfl Try.sizeOf41 rfl rfl) ?_)
  refine l_op rfl (o_val rfl rfl (r_load (v := .int .i64 (2)) rfl Try.isAgg41 rfl (List.mem_cons_of_mem _ (List.mem_cons_of_mem _ List.mem_cons_self)) rfl) ?_)
  refine l_nil ?_
  refine e_next ?_
  refine t_block ?_
  refine t_seq ?_
  refine t_block ?_
  refine t_seq ?_
  refine t_block ?_
  refine t_seq ?_
  refine t_block ?_
  refine t_block ?_
  refine t_seq ?_
  refine t_block ?_
  refine t_seq ?_
  refine t_block ?_
  refine t_seq ?_
  refine t_block ?_
  refine t_seq ?_
  refine t_block ?_
  refine t_seq ?_
  refine t_block ?_
  refine t_block ?_
  refine t_seq ?_
  refine t_seq ?_
  refine t_seq ?_
  refine t_region ?_
  refine l_op rfl (o_val rfl rfl (Run.eq (v' := .bool false) (r_eq rfl rfl rfl) (by rfl)) ?_)
  refine l_op rfl (o_val rfl rfl (r_assign rfl rfl) ?_)
  refine l_nil ?_
  refine e_next ?_
  refine t_false rfl ?_
  refine t_skip ?_
  refine e_next ?_
  refine t_seq ?_
  refine t_seq ?_
  refine t_region ?_
  refine l_op rfl (o_val rfl rfl (Run.eq (v' := .bool false) (r_eq rfl rfl rfl) (by rfl)) ?_)
  refine l_op rfl (o_val rfl rfl (r_assign rfl rfl) ?_)
  refine l_nil ?_
  refine e_next ?_
  refine t_false rfl ?_
  refine t_skip ?_
  refine e_next ?_
  refine t_seq ?_
  refine t_seq ?_
  refine t_region ?_
  refine l_op rfl (o_val rfl rfl (Run.eq (v' := .bool true) (r_eq rfl rfl rfl) (by rfl)) ?_)
  refine l_op rfl (o_val rfl rfl (r_assign rfl rfl) ?_)
  refine l_nil ?_
  refine e_next ?_
  refine t_true rfl ?_
  refine t_exit ?_
  refine e_pass_exit ?_
  refine e_pass_exit ?_
  refine e_block_on rfl ?_
  refine e_block_on rfl ?_
  refine e_pass_exit ?_
  refine e_block_here ?_
  refine e_next ?_
  refine t_seq ?_
  refine t_seq ?_
  refine t_region ?_
  refine l_op rfl (o_val rfl rfl (r_fieldAddr (k := 35) rfl rfl Try.underlying49 rfl Try.sizeOf3 rfl rfl) ?_)
  refine l_op rfl (o_val rfl rfl (r_load (v := .int .i64 (300)) rfl Try.isAgg3 rfl (List.mem_cons_of_mem _ (List.mem_cons_of_mem _ List.mem_cons_self)) rfl) ?_)
  refine l_op rfl (o_val rfl rfl (r_fieldAddr (k := 35) rfl rfl Try.underlying49 rfl Try.sizeOf3 rfl rfl) ?_)
  refine l_op rfl (o_store rfl rfl rfl rfl rfl Try.sizeOf3 .head rfl ?_)
  refine Then.of_eq (H2 := ((b3, .cells (([.int .i64 (2), .int .i64 (0), .int .i64 (0)] : List Value) ++ z8 32 ++ ([.int .i64 (300)] : List Value) ++ z8 32 ++ ([.int .i64 (0), .int .i64 (0)] : List Value) ++ z8 32 ++ ([.int .i64 (0), .int .i64 (0), .string ⟨#[]⟩, .slice none 0 0, .slice none 0 0, .slice none 0 0] : List Value)).toArray 49 (0, 0)) :: ((b2, .cells (([.int .i64 (0), .int .i64 (0), .int .i64 (0)] : List Value) ++ z8 32 ++ ([.int .i64 (0)] : List Value) ++ z8 32 ++ ([.int .i64 (0), .int .i64 (0)] : List Value) ++ z8 32 ++ ([.int .i64 (0), .int .i64 (0), .string ⟨#[]⟩, .slice none 0 0, .slice none 0 0, .slice none 0 0] : List Value)).toArray 49 (0, 0)) :: ((b1, .cells (([.int .i64 (2), .int .i64 (0), .int .i64 (0)] : List Value) ++ z8 32 ++ ([.int .i64 (300)] : List Value) ++ z8 32 ++ ([.int .i64 (0), .int .i64 (0)] : List Value) ++ z8 32 ++ ([.int .i64 (0), .int .i64 (0), .string ⟨#[]⟩, .slice none 0 0, .slice none 0 0, .slice none 0 0] : List Value)).toArray 49 (0, 0)) :: H)))) rfl ?_
  refine l_nil ?_
  refine e_next ?_
  refine t_region ?_
  refine l_op rfl (o_val rfl rfl (r_fieldAddr (k := 35) rfl rfl Try.underlying49 rfl Try.sizeOf3 rfl rfl) ?_)
  refine l_op rfl (o_val rfl rfl (r_load (v := .int .i64 (300)) rfl Try.isAgg3 rfl (List.mem_cons_of_mem _ (List.mem_cons_of_mem _ List.mem_cons_self)) rfl) ?_)
  refine l_op rfl (o_inline (N' := 12) rfl rfl rfl Try.call59 rfl Try.func59 rfl rfl rfl ?_)
  show Then E 12 [(0, .int .i64 (300)), (1, .int .i64 (1))] _ _
  refine t_seq ?_
  refine t_region ?_
  refine l_op rfl (o_val rfl rfl (r_assign rfl rfl) ?_)
  refine l_nil ?_
  refine e_next ?_
  refine t_seq ?_
  refine t_region ?_
  refine l_op rfl (o_val rfl rfl (r_move rfl rfl) ?_)
  refine l_op rfl (o_val rfl rfl (r_move rfl rfl) ?_)
  refine l_op rfl (o_val rfl rfl (Run.eq (v' := .bool true) (r_ge rfl rfl rfl) (by rfl)) ?_)
  refine l_op rfl (o_val rfl rfl (r_move rfl rfl) ?_)
  refine l_yes rfl rfl rfl (o_val rfl rfl (r_move rfl rfl) ?_)
  refine l_yes rfl rfl rfl (o_val rfl rfl (Run.eq (v' := .bool true) (r_le rfl rfl rfl) (by rfl)) ?_)
  refine l_op rfl (o_val rfl rfl (r_pickt rfl rfl rfl) ?_)
  refine l_op rfl (o_val rfl rfl (r_assign rfl rfl) ?_)
  refine l_nil ?_
  refine e_next ?_
  refine t_ret ?_
  refine e_retT rfl (.tmp rfl .nil) ?_
  refine l_op rfl (o_val rfl rfl (r_assign rfl rfl) ?_)
  refine l_nil ?_
  refine e_next ?_
  refine t_exit ?_
  refine e_block_on rfl ?_
  refine e_pass_exit ?_
  refine e_block_on rfl ?_
  refine e_pass_exit ?_
  refine e_block_on rfl ?_
  refine e_pass_exit ?_
  refine e_block_on rfl ?_
  refine e_block_on rfl ?_
  refine e_pass_exit ?_
  refine e_block_on rfl ?_
  refine e_pass_exit ?_
  refine e_block_on rfl ?_
  refine e_pass_exit ?_
  refine e_block_here ?_
  refine e_next ?_
  refine t_seq ?_
  refine t_region ?_
  refine l_op rfl (o_val rfl rfl (r_loadAgg (xs := ([.int .i64 (2), .int .i64 (0), .int .i64 (0)] : List Value) ++ z8 32 ++ ([.int .i64 (300)] : List Value) ++ z8 32 ++ ([.int .i64 (0), .int .i64 (0)] : List Value) ++ z8 32 ++ ([.int .i64 (0), .int .i64 (0), .string ⟨#[]⟩, .slice none 0 0, .slice none 0 0, .slice none 0 0] : List Value)) rfl Try.isAgg49 Try.sizeOf49 rfl List.mem_cons_self (At.self _) rfl) ?_)
  refine l_op rfl (o_val rfl rfl (r_move rfl rfl) ?_)
  refine l_op rfl (o_storeAgg (ys := ([.int .i64 (2), .int .i64 (0), .int .i64 (0)] : List Value) ++ z8 32 ++ ([.int .i64 (300)] : List Value) ++ z8 32 ++ ([.int .i64 (0), .int .i64 (0)] : List Value) ++ z8 32 ++ ([.int .i64 (0), .int .i64 (0), .string ⟨#[]⟩, .slice none 0 0, .slice none 0 0, .slice none 0 0] : List Value)) rfl rfl rfl rfl rfl Try.sizeOf49 (.tail .head) rfl ?_)
  refine Then.of_eq (H2 := ((b2, .cells (([.int .i64 (2), .int .i64 (0), .int .i64 (0)] : List Value) ++ z8 32 ++ ([.int .i64 (300)] : List Value) ++ z8 32 ++ ([.int .i64 (0), .int .i64 (0)] : List Value) ++ z8 32 ++ ([.int .i64 (0), .int .i64 (0), .string ⟨#[]⟩, .slice none 0 0, .slice none 0 0, .slice none 0 0] : List Value)).toArray 49 (0, 0)) :: ((b3, .cells (([.int .i64 (2), .int .i64 (0), .int .i64 (0)] : List Value) ++ z8 32 ++ ([.int .i64 (300)] : List Value) ++ z8 32 ++ ([.int .i64 (0), .int .i64 (0)] : List Value) ++ z8 32 ++ ([.int .i64 (0), .int .i64 (0), .string ⟨#[]⟩, .slice none 0 0, .slice none 0 0, .slice none 0 0] : List Value)).toArray 49 (0, 0)) :: ((b1, .cells (([.int .i64 (2), .int .i64 (0), .int .i64 (0)] : List Value) ++ z8 32 ++ ([.int .i64 (300)] : List Value) ++ z8 32 ++ ([.int .i64 (0), .int .i64 (0)] : List Value) ++ z8 32 ++ ([.int .i64 (0), .int .i64 (0), .string ⟨#[]⟩, .slice none 0 0, .slice none 0 0, .slice none 0 0] : List Value)).toArray 49 (0, 0)) :: H)))) rfl ?_
  refine l_op rfl (o_val rfl rfl (r_assign rfl rfl) ?_)
  refine l_nil ?_
  refine Then.slots (.cons (t := 2) rfl (.cons (t := 3) rfl .nil)) ?_
  refine e_next ?_
  refine t_ret ?_
  exact e_ret rfl (.agg rfl Try.isAgg49 Try.sizeOf49 List.mem_cons_self (At.self _) rfl (.tmp rfl .nil)) ⟨rfl, Pre.ex (.cons (.cons (.cons .refl)))⟩

set_option maxHeartbeats 2000000 in
set_option maxRecDepth 100000 in
theorem askCheck_c {E : Env} {H : Heap} :
    Fn Try.prog 27 [.agg (([.int .i64 (2), .int .i64 (0), .int .i64 (0)] : List Value) ++ z8 32 ++ ([.int .i64 (300)] : List Value) ++ z8 32 ++ ([.int .i64 (0), .int .i64 (0)] : List Value) ++ z8 32 ++ ([.int .i64 (0), .int .i64 (0), .string ⟨#[]⟩, .slice none 0 0, .slice none 0 0, .slice none 0 0] : List Value)).toArray] E H (fun v H2 => v = .int .i64 0 ∧ ∃ X, H2 = X ++ H) := by
  refine Fn.of_body (N := 18) Try.func27 rfl rfl rfl ?_
  refine t_seq ?_
  refine t_region ?_
  refine l_op rfl (o_box rfl rfl rfl rfl rfl ?_)
  intro b1
  refine l_op rfl (o_val rfl rfl (r_assign rfl rfl) ?_)
  refine l_nil ?_
  refine e_next ?_
  refine t_seq ?_
  refine t_seq ?_
  refine t_region ?_
  refine l_op rfl (o_val rfl rfl (r_loadAgg (xs := ([.int .i64 (2), .int .i64 (0), .int .i64 (0)] : List Value) ++ z8 32 ++ ([.int .i64 (300)] : List Value) ++ z8 32 ++ ([.int .i64 (0), .int .i64 (0)] : List Value) ++ z8 32 ++ ([.int .i64 (0), .int .i64 (0), .string ⟨#[]⟩, .slice none 0 0, .slice none 0 0, .slice none 0 0] : List Value)) rfl Try.isAgg49 Try.sizeOf49 rfl List.mem_cons_self (At.self _) rfl) ?_)
  refine l_op rfl (o_call rfl rfl rfl Try.call47 rfl (askOnly_c) ?_)
  rintro _ _ ⟨rfl, X2, rfl⟩
  refine l_op rfl (o_val rfl rfl (r_move rfl rfl) ?_)
  refine l_op rfl (o_val rfl rfl (r_extract (v := .agg (([.int .i64 (2), .int .i64 (0), .int .i64 (0)] : List Value) ++ z8 32 ++ ([.int .i64 (300)] : List Value) ++ z8 32 ++ ([.int .i64 (0), .int .i64 (0)] : List Value) ++ z8 32 ++ ([.int .i64 (0), .int .i64 (0), .string ⟨#[]⟩, .slice none 0 0, .slice none 0 0, .slice none 0 0] : List Value)).toArray) rfl rfl rfl) ?_)
  refine l_op rfl (o_val rfl rfl (r_extract (v := .bool (true)) rfl rfl rfl) ?_)
  refine l_op rfl (o_alloc (zs := ([.int .i64 (0), .int .i64 (0), .int .i64 (0)] : List Value) ++ z8 32 ++ ([.int .i64 (0)] : List Value) ++ z8 32 ++ ([.int .i64 (0), .int .i64 (0)] : List Value) ++ z8 32 ++ ([.int .i64 (0), .int .i64 (0), .string ⟨#[]⟩, .slice none 0 0, .slice none 0 0, .slice none 0 0] : List Value)) rfl rfl rfl Try.zeroValue49 (by kernel_rfl) ?_)
  intro b3
  refine l_op rfl (o_storeAgg (ys := ([.int .i64 (2), .int .i64 (0), .int .i64 (0)] : List Value) ++ z8 32 ++ ([.int .i64 (300)] : List Value) ++ z8 32 ++ ([.int .i64 (0), .int .i64 (0)] : List Value) ++ z8 32 ++ ([.int .i64 (0), .int .i64 (0), .string ⟨#[]⟩, .slice none 0 0, .slice none 0 0, .slice none 0 0] : List Value)) rfl rfl rfl rfl rfl Try.sizeOf49 .head rfl ?_)
  refine Then.of_eq (H2 := ((b3, .cells (([.int .i64 (2), .int .i64 (0), .int .i64 (0)] : List Value) ++ z8 32 ++ ([.int .i64 (300)] : List Value) ++ z8 32 ++ ([.int .i64 (0), .int .i64 (0)] : List Value) ++ z8 32 ++ ([.int .i64 (0), .int .i64 (0), .string ⟨#[]⟩, .slice none 0 0, .slice none 0 0, .slice none 0 0] : List Value)).toArray 49 (0, 0)) :: (X2 ++ ((b1, .cells (([.int .i64 (2), .int .i64 (0), .int .i64 (0)] : List Value) ++ z8 32 ++ ([.int .i64 (300)] : List Value) ++ z8 32 ++ ([.int .i64 (0), .int .i64 (0)] : List Value) ++ z8 32 ++ ([.int .i64 (0), .int .i64 (0), .string ⟨#[]⟩, .slice none 0 0, .slice none 0 0, .slice none 0 0] : List Value)).toArray 49 (0, 0)) :: H)))) rfl ?_
  refine l_op rfl (o_val rfl rfl (r_assign rfl rfl) ?_)
  refine l_nil ?_
  refine e_next ?_
  refine t_seq ?_
  refine t_region ?_
  refine l_op rfl (o_val rfl rfl (r_move rfl rfl) ?_)
  refine l_op rfl (o_val rfl rfl (r_not rfl rfl) ?_)
  refine l_op rfl (o_val rfl rfl (r_move rfl rfl) ?_)
  refine l_yes rfl rfl rfl (o_val rfl rfl (r_loadAgg (xs := ([.int .i64 (2), .int .i64 (0), .int .i64 (0)] : List Value) ++ z8 32 ++ ([.int .i64 (300)] : List Value) ++ z8 32 ++ ([.int .i64 (0), .int .i64 (0)] : List Value) ++ z8 32 ++ ([.int .i64 (0), .int .i64 (0), .string ⟨#[]⟩, .slice none 0 0, .slice none 0 0, .slice none 0 0] : List Value)) rfl Try.isAgg49 Try.sizeOf49 rfl List.mem_cons_self (At.self _) rfl) ?_)
  refine l_yes rfl rfl rfl (o_val rfl rfl (r_loadAgg (xs := ([.int .i64 (2), .int .i64 (0), .int .i64 (0)] : List Value) ++ z8 32 ++ ([.int .i64 (300)] : List Value) ++ z8 32 ++ ([.int .i64 (0), .int .i64 (0)] : List Value) ++ z8 32 ++ ([.int .i64 (0), .int .i64 (0), .string ⟨#[]⟩, .slice none 0 0, .slice none 0 0, .slice none 0 0] : List Value)) rfl Try.isAgg49 Try.sizeOf49 rfl (List.mem_cons_of_mem _ (List.mem_append_right _ List.mem_cons_self)) (At.self _) rfl) ?_)
  refine l_yes rfl rfl rfl (o_call rfl rfl rfl Try.call48 rfl (askSame_c) ?_)
  rintro _ _ ⟨rfl, X4, rfl⟩
  refine l_yes rfl rfl rfl (o_val rfl rfl (r_not rfl rfl) ?_)
  refine l_op rfl (o_val rfl rfl (r_pickf rfl rfl rfl) ?_)
  refine l_nil ?_
  refine e_next ?_
  refine t_false rfl ?_
  refine t_skip ?_
  refine e_next ?_
  refine t_seq ?_
  refine t_region ?_
  refine l_op rfl (o_val rfl rfl (r_assign rfl rfl) ?_)
  refine l_nil ?_
  refine e_next ?_
  refine t_ret ?_
  exact e_ret rfl (.tmp rfl .nil) ⟨rfl, Pre.ex (.app (.cons (.app (.cons .refl))))⟩

set_option maxHeartbeats 2000000 in
set_option maxRecDepth 100000 in
theorem askBytes_c {E : Env} {H : Heap} :
    Fn Try.prog 20 [.agg (([.int .i64 (2), .int .i64 (0), .int .i64 (0)] : List Value) ++ z8 32 ++ ([.int .i64 (300)] : List Value) ++ z8 32 ++ ([.int .i64 (0), .int .i64 (0)] : List Value) ++ z8 32 ++ ([.int .i64 (0), .int .i64 (0), .string ⟨#[]⟩, .slice none 0 0, .slice none 0 0, .slice none 0 0] : List Value)).toArray] E H (fun v H2 => ∃ v2 X, v = .tuple #[v2, .int .i64 0] ∧ H2 = X ++ H ∧ Own 1 5 v2 (([2, 172, 2] : List UInt8).map encU8) X) := by
  refine Fn.of_body (N := 110) Try.func20 rfl rfl rfl ?_
  refine t_seq ?_
  refine t_region ?_
  refine l_op rfl (o_box rfl rfl rfl rfl rfl ?_)
  intro b1
  refine l_op rfl (o_val rfl rfl (r_assign rfl rfl) ?_)
  refine l_op rfl (o_val rfl rfl (r_assign rfl rfl) ?_)
  refine l_nil ?_
  refine e_next ?_
  refine t_seq ?_
  refine t_seq ?_
  refine t_region ?_
  refine l_op rfl (o_val rfl rfl (r_loadAgg (xs := ([.int .i64 (2), .int .i64 (0), .int .i64 (0)] : List Value) ++ z8 32 ++ ([.int .i64 (300)] : List Value) ++ z8 32 ++ ([.int .i64 (0), .int .i64 (0)] : List Value) ++ z8 32 ++ ([.int .i64 (0), .int .i64 (0), .string ⟨#[]⟩, .slice none 0 0, .slice none 0 0, .slice none 0 0] : List Value)) rfl Try.isAgg49 Try.sizeOf49 rfl List.mem_cons_self (At.self _) rfl) ?_)
  refine l_op rfl (o_call rfl rfl rfl Try.call27 rfl (askCheck_c) ?_)
  rintro _ _ ⟨rfl, X2, rfl⟩
  refine l_op rfl (o_val rfl rfl (r_assign rfl rfl) ?_)
  refine l_nil ?_
  refine e_next ?_
  refine t_seq ?_
  refine t_region ?_
  refine l_op rfl (o_val rfl rfl (r_move rfl rfl) ?_)
  refine l_op rfl (o_val rfl rfl (Run.eq (v' := .bool false) (r_ne rfl rfl rfl) (by rfl)) ?_)
  refine l_nil ?_
  refine e_next ?_
  refine t_false rfl ?_
  refine t_skip ?_
  refine e_next ?_
  refine t_seq ?_
  refine t_region ?_
  refine l_op rfl (o_val rfl rfl (r_fieldAddr (k := 0) rfl rfl Try.underlying49 rfl Try.sizeOf41 rfl rfl) ?_)
  refine l_op rfl (o_val rfl rfl (r_load (v := .int .i64 (2)) rfl Try.isAgg41 rfl (List.mem_append_right _ List.mem_cons_self) rfl) ?_)
  refine l_op rfl (o_val rfl rfl (Run.eq (v' := .int .u8 2) (r_conv rfl rfl Try.underlying41 Try.underlying5) (by rfl)) ?_)
  refine l_op rfl (o_slice1 rfl rfl rfl rfl rfl Try.underlying37 Try.sizeOf5 Try.zeroValue5 rfl rfl (by omega) ?_)
  intro b3
  refine l_op rfl (o_val rfl rfl (r_assign rfl rfl) ?_)
  refine l_nil ?_
  refine e_next ?_
  refine t_seq ?_
  refine t_seq ?_
  refine t_region ?_
  refine l_op rfl (o_val rfl rfl (r_fieldAddr (k := 0) rfl rfl Try.underlying49 rfl Try.sizeOf41 rfl rfl) ?_)
  refine l_op rfl (o_val rfl rfl (r_load (v := .int .i64 (2)) rfl Try.isAgg41 rfl (List.mem_cons_of_mem _ (List.mem_append_right _ List.mem_cons_self)) rfl) ?_)
  refine l_nil ?_
  refine e_next ?_
  refine t_block ?_
  refine t_seq ?_
  refine t_block ?_
  refine t_seq ?_
  refine t_block ?_
  refine t_seq ?_
  refine t_block ?_
  refine t_block ?_
  refine t_seq ?_
  refine t_block ?_
  refine t_seq ?_
  refine t_block ?_
  refine t_block ?_
  refine t_seq ?_
  refine t_block ?_
  refine t_seq ?_
  refine t_block ?_
  refine t_block ?_
  refine t_seq ?_
  refine t_seq ?_
  refine t_seq ?_
  refine t_region ?_
  refine l_op rfl (o_val rfl rfl (Run.eq (v' := .bool false) (r_eq rfl rfl rfl) (by rfl)) ?_)
  refine l_op rfl (o_val rfl rfl (r_assign rfl rfl) ?_)
  refine l_nil ?_
  refine e_next ?_
  refine t_false rfl ?_
  refine t_skip ?_
  refine e_next ?_
  refine t_seq ?_
  refine t_seq ?_
  refine t_region ?_
  refine l_op rfl (o_val rfl rfl (Run.eq (v' := .bool false) (r_eq rfl rfl rfl) (by rfl)) ?_)
  refine l_op rfl (o_val rfl rfl (r_assign rfl rfl) ?_)
  refine l_nil ?_
  refine e_next ?_
  refine t_false rfl ?_
  refine t_skip ?_
  refine e_next ?_
  refine t_seq ?_
  refine t_seq ?_
  refine t_region ?_
  refine l_op rfl (o_val rfl rfl (Run.eq (v' := .bool true) (r_eq rfl rfl rfl) (by rfl)) ?_)
  refine l_op rfl (o_val rfl rfl (r_assign rfl rfl) ?_)
  refine l_nil ?_
  refine e_next ?_
  refine t_true rfl ?_
  refine t_exit ?_
  refine e_pass_exit ?_
  refine e_pass_exit ?_
  refine e_block_on rfl ?_
  refine e_block_on rfl ?_
  refine e_pass_exit ?_
  refine e_block_here ?_
  refine e_next ?_
  refine t_seq ?_
  refine t_region ?_
  refine l_op rfl (o_val rfl rfl (r_move rfl rfl) ?_)
  refine l_op rfl (o_val rfl rfl (r_fieldAddr (k := 35) rfl rfl Try.underlying49 rfl Try.sizeOf3 rfl rfl) ?_)
  refine l_op rfl (o_val rfl rfl (r_load (v := .int .i64 (300)) rfl Try.isAgg3 rfl (List.mem_cons_of_mem _ (List.mem_append_right _ List.mem_cons_self)) rfl) ?_)
  refine l_op rfl (o_val rfl rfl (Run.eq (v' := .int .u64 300) (r_conv rfl rfl Try.underlying3 Try.underlying60) (by rfl)) ?_)
  refine l_op rfl (o_inline (N' := 19) rfl rfl rfl Try.call28 rfl Try.func28 rfl rfl rfl ?_)
  show Then E 19 [(0, .int .u64 (300))] _ _
  refine t_seq ?_
  refine t_region ?_
  refine l_op rfl (o_val rfl rfl (r_assign rfl rfl) ?_)
  refine l_nil ?_
  refine e_next ?_
  refine t_seq ?_
  refine t_region ?_
  refine l_op rfl (o_val rfl rfl (r_assign rfl rfl) ?_)
  refine l_nil ?_
  refine e_next ?_
  refine t_seq ?_
  refine t_block ?_
  refine t_unroll 3 ?_
  refine t_round ?_
  refine t_seq ?_
  refine t_seq ?_
  refine t_region ?_
  refine l_op rfl (o_val rfl rfl (r_move rfl rfl) ?_)
  refine l_op rfl (o_val rfl rfl (Run.eq (v' := .bool true) (r_ge rfl rfl rfl) (by rfl)) ?_)
  refine l_nil ?_
  refine e_next ?_
  refine t_true rfl ?_
  refine t_skip ?_
  refine e_next ?_
  refine t_block ?_
  refine t_seq ?_
  refine t_region ?_
  refine l_op rfl (o_val rfl rfl (r_move rfl rfl) ?_)
  refine l_op rfl (o_val rfl rfl (r_move rfl rfl) ?_)
  refine l_op rfl (o_val rfl rfl (Run.eq (v' := .int .u8 44) (r_conv rfl rfl Try.underlying60 Try.underlying5) (by rfl)) ?_)
  refine l_op rfl (o_val rfl rfl (Run.eq (v' := .int .u8 172) (r_w8or (a := (44 : UInt8)) (b := (128 : UInt8)) rfl rfl rfl) (by rfl)) ?_)
  refine l_op rfl (o_slice1 rfl rfl rfl rfl rfl Try.underlying37 Try.sizeOf5 Try.zeroValue5 rfl rfl (by omega) ?_)
  intro b4
  refine l_op rfl (o_appendS (enc := encU8) (xs := []) (l := [(172 : UInt8)]) rfl rfl rfl rfl rfl Try.underlying37 Try.type5 rfl rfl rfl rfl (fun _ => rfl) (fun _ => rfl) (Own.nil _ _) (Pull.here (S := [])) (sliceAt_one (enc := encU8) (a := (172 : UInt8)) rfl List.mem_cons_self) (by show (_ + _) * 1 ≤ _; (try simp only [List.length_nil, List.length_cons, List.length_append, List.length_map, List.length_take, List.length_replicate, List.length_drop]); omega) (by (try simp only [List.length_nil, List.length_cons, List.length_append, List.length_map, List.length_take, List.length_replicate, List.length_drop]); omega) ?_)
  intro v5 X5 ho5
  rw [List.nil_append] at ho5
  refine l_op rfl (o_val rfl rfl (r_assign rfl rfl) ?_)
  refine l_nil ?_
  refine e_next ?_
  refine t_region ?_
  refine l_op rfl (o_val rfl rfl (r_move rfl rfl) ?_)
  refine l_op rfl (o_val rfl rfl (Run.eq (v' := .int .u64 2) (r_w64shr (a := (300 : UInt64)) (7 : UInt64) rfl rfl rfl (by decide) rfl) (by rfl)) ?_)
  refine l_op rfl (o_val rfl rfl (r_assign rfl rfl) ?_)
  refine l_nil ?_
  refine e_block _ ?_
  refine e_next ?_
  refine t_round ?_
  refine t_seq ?_
  refine t_seq ?_
  refine t_region ?_
  refine l_op rfl (o_val rfl rfl (r_move rfl rfl) ?_)
  refine l_op rfl (o_val rfl rfl (Run.eq (v' := .bool false) (r_ge rfl rfl rfl) (by rfl)) ?_)
  refine l_nil ?_
  refine e_next ?_
  refine t_false rfl ?_
  refine t_exit ?_
  refine e_pass_exit ?_
  refine e_pass_exit ?_
  refine e_block_here ?_
  refine e_next ?_
  refine t_seq ?_
  refine t_region ?_
  refine l_op rfl (o_val rfl rfl (r_move rfl rfl) ?_)
  refine l_op rfl (o_val rfl rfl (r_move rfl rfl) ?_)
  refine l_op rfl (o_val rfl rfl (Run.eq (v' := .int .u8 2) (r_conv rfl rfl Try.underlying60 Try.underlying5) (by rfl)) ?_)
  refine l_op rfl (o_slice1 rfl rfl rfl rfl rfl Try.underlying37 Try.sizeOf5 Try.zeroValue5 rfl rfl (by omega) ?_)
  intro b6
  refine l_op rfl (o_appendS (enc := encU8) (xs := [(172 : UInt8)]) (l := [(2 : UInt8)]) rfl rfl rfl rfl rfl Try.underlying37 Try.type5 rfl rfl rfl rfl (fun _ => rfl) (fun _ => rfl) ho5 (.tail .here) (sliceAt_one (enc := encU8) (a := (2 : UInt8)) rfl List.mem_cons_self) (by show (_ + _) * 1 ≤ _; (try simp only [List.length_nil, List.length_cons, List.length_append, List.length_map, List.length_take, List.length_replicate, List.length_drop]); omega) (by (try simp only [List.length_nil, List.length_cons, List.length_append, List.length_map, List.length_take, List.length_replicate, List.length_drop]); omega) ?_)
  intro v7 X7 ho7
  refine l_op rfl (o_val rfl rfl (r_assign rfl rfl) ?_)
  refine l_nil ?_
  refine e_next ?_
  refine t_ret ?_
  refine e_retT rfl (.tmp rfl .nil) ?_
  obtain ⟨a9, c9, hv9, hsl9⟩ := Own.at (enc := encU8) (l := ([(172 : UInt8)] ++ [(2 : UInt8)])) ho7
  subst hv9
  have hcp9 := SliceAt.cap hsl9
  have hlt9 : (([(172 : UInt8)] ++ [(2 : UInt8)])).length = 2 := rfl
  refine l_op rfl (o_appendS (enc := encU8) (xs := [(2 : UInt8)]) (l := ([(172 : UInt8)] ++ [(2 : UInt8)])) rfl rfl rfl rfl rfl Try.underlying37 Try.type5 rfl rfl rfl rfl (fun _ => rfl) (fun _ => rfl) (Own.one (sz := 1) (T := 5) (enc := encU8) (a := (2 : UInt8)) rfl) (.app (.tail (.tail .here))) (SliceAt.mono hsl9 (fun p hp => (List.mem_append_left _ hp))) (by show (_ + _) * 1 ≤ _; (try simp only [List.length_nil, List.length_cons, List.length_append, List.length_map, List.length_take, List.length_replicate, List.length_drop]); omega) (by (try simp only [List.length_nil, List.length_cons, List.length_append, List.length_map, List.length_take, List.length_replicate, List.length_drop]); omega) ?_)
  intro v8 X8 ho8
  refine l_op rfl (o_val rfl rfl (r_assign rfl rfl) ?_)
  refine l_nil ?_
  refine Then.slots (.cons (t := 1) rfl (.cons (t := 2) rfl (.cons (t := 3) rfl (.cons (t := 5) rfl .nil)))) ?_
  refine e_next ?_
  refine t_exit ?_
  refine e_block_on rfl ?_
  refine e_block_on rfl ?_
  refine e_pass_exit ?_
  refine e_block_on rfl ?_
  refine e_pass_exit ?_
  refine e_block_on rfl ?_
  refine e_block_on rfl ?_
  refine e_pass_exit ?_
  refine e_block_on rfl ?_
  refine e_pass_exit ?_
  refine e_block_on rfl ?_
  refine e_pass_exit ?_
  refine e_block_here ?_
  refine e_next ?_
  refine t_seq ?_
  refine t_region ?_
  refine l_op rfl (o_val rfl rfl (r_move rfl rfl) ?_)
  refine l_op rfl (o_val rfl rfl (r_assign rfl rfl) ?_)
  refine l_op rfl (o_val rfl rfl (r_assign rfl rfl) ?_)
  refine l_nil ?_
  refine e_next ?_
  refine t_ret ?_
  refine Then.mem (.seg .here (.dropS (.drop (.drop (.dropS (.drop .all)))))) ?_
  exact e_ret rfl (.tmp rfl (.tmp rfl .nil)) ⟨_, X8, rfl, rfl, Own.cast rfl ho8⟩

set_option maxHeartbeats 2000000 in
set_option maxRecDepth 100000 in
theorem askParse_c {E : Env} {H : Heap} {a : Option Addr} {c : Nat} (hs : SliceAt H encU8 1 a 3 c [2, 172, 2]) :
    Fn Try.prog 21 [.slice a 3 c] E H (fun v H2 => v = .tuple #[.agg (([.int .i64 (2), .int .i64 (0), .int .i64 (0)] : List Value) ++ z8 32 ++ ([.int .i64 (300)] : List Value) ++ z8 32 ++ ([.int .i64 (0), .int .i64 (0)] : List Value) ++ z8 32 ++ ([.int .i64 (0), .int .i64 (0), .string ⟨#[]⟩, .slice none 0 0, .slice none 0 0, .slice none 0 0] : List Value)).toArray, .int .i64 0] ∧ ∃ X, H2 = X ++ H) := by
  refine Fn.of_body (N := 105) Try.func21 rfl rfl rfl ?_
  refine t_seq ?_
  refine t_region ?_
  refine l_op rfl (o_alloc (zs := ([.int .i64 (0), .int .i64 (0), .int .i64 (0)] : List Value) ++ z8 32 ++ ([.int .i64 (0)] : List Value) ++ z8 32 ++ ([.int .i64 (0), .int .i64 (0)] : List Value) ++ z8 32 ++ ([.int .i64 (0), .int .i64 (0), .string ⟨#[]⟩, .slice none 0 0, .slice none 0 0, .slice none 0 0] : List Value)) rfl rfl rfl Try.zeroValue49 (by kernel_rfl) ?_)
  intro b1
  refine l_op rfl (o_val rfl rfl (r_assign rfl rfl) ?_)
  refine l_nil ?_
  refine e_next ?_
  refine t_seq ?_
  refine t_seq ?_
  refine t_region ?_
  refine l_op rfl (o_val rfl rfl (r_move rfl rfl) ?_)
  refine l_op rfl (o_val rfl rfl (r_len rfl rfl Try.underlying37) ?_)
  refine l_op rfl (o_val rfl rfl (Run.eq (v' := .bool false) (r_lt rfl rfl rfl) (by rfl)) ?_)
  refine l_nil ?_
  refine e_next ?_
  refine t_false rfl ?_
  refine t_skip ?_
  refine e_next ?_
  refine t_seq ?_
  refine t_region ?_
  refine l_op rfl (o_val rfl rfl (r_move rfl rfl) ?_)
  obtain ⟨b2, o2, cs2, T2, fz2, ha2, hm2, hr2⟩ := SliceAt.opn hs (by omega)
  refine l_op rfl (o_val rfl rfl (r_indexAddr rfl rfl ha2 rfl Try.underlying37 Try.sizeOf5 (by omega) (by omega)) ?_)
  refine l_op rfl (o_val rfl rfl (Run.eq (v' := .int .u8 2) (r_load (v := .int .u8 ((((([2, 172, 2] : List UInt8)[0]!)).toNat : Int))) rfl Try.isAgg5 rfl ((fun p hp => (List.mem_cons_of_mem _ hp)) _ hm2) (At.get0 (Row.elem hr2 (getBangI (l := ([2, 172, 2] : List UInt8)) (j := 0) (i := 0) (by first | rfl | omega) (by have hh_ := SliceAt.len hs; omega))) rfl)) (by rfl)) ?_)
  refine l_op rfl (o_val rfl rfl (Run.eq (v' := .int .i64 2) (r_conv rfl rfl Try.underlying5 Try.underlying41) (by rfl)) ?_)
  refine l_op rfl (o_val rfl rfl (r_build (cells := ([.int .i64 (2), .int .i64 (0), .int .i64 (0)] : List Value) ++ z8 32 ++ ([.int .i64 (0)] : List Value) ++ z8 32 ++ ([.int .i64 (0), .int .i64 (0)] : List Value) ++ z8 32 ++ ([.int .i64 (0), .int .i64 (0), .string ⟨#[]⟩, .slice none 0 0, .slice none 0 0, .slice none 0 0] : List Value)) rfl rfl (by kernel_rfl)) ?_)
  refine l_op rfl (o_alloc (zs := ([.int .i64 (0), .int .i64 (0), .int .i64 (0)] : List Value) ++ z8 32 ++ ([.int .i64 (0)] : List Value) ++ z8 32 ++ ([.int .i64 (0), .int .i64 (0)] : List Value) ++ z8 32 ++ ([.int .i64 (0), .int .i64 (0), .string ⟨#[]⟩, .slice none 0 0, .slice none 0 0, .slice none 0 0] : List Value)) rfl rfl rfl Try.zeroValue49 (by kernel_rfl) ?_)
  intro b3
  refine l_op rfl (o_storeAgg (ys := ([.int .i64 (2), .int .i64 (0), .int .i64 (0)] : List Value) ++ z8 32 ++ ([.int .i64 (0)] : List Value) ++ z8 32 ++ ([.int .i64 (0), .int .i64 (0)] : List Value) ++ z8 32 ++ ([.int .i64 (0), .int .i64 (0), .string ⟨#[]⟩, .slice none 0 0, .slice none 0 0, .slice none 0 0] : List Value)) rfl rfl rfl rfl rfl Try.sizeOf49 .head rfl ?_)
  refine Then.of_eq (H2 := ((b3, .cells (([.int .i64 (2), .int .i64 (0), .int .i64 (0)] : List Value) ++ z8 32 ++ ([.int .i64 (0)] : List Value) ++ z8 32 ++ ([.int .i64 (0), .int .i64 (0)] : List Value) ++ z8 32 ++ ([.int .i64 (0), .int .i64 (0), .string ⟨#[]⟩, .slice none 0 0, .slice none 0 0, .slice none 0 0] : List Value)).toArray 49 (0, 0)) :: ((b1, .cells (([.int .i64 (0), .int .i64 (0), .int .i64 (0)] : List Value) ++ z8 32 ++ ([.int .i64 (0)] : List Value) ++ z8 32 ++ ([.int .i64 (0), .int .i64 (0)] : List Value) ++ z8 32 ++ ([.int .i64 (0), .int .i64 (0), .string ⟨#[]⟩, .slice none 0 0, .slice none 0 0, .slice none 0 0] : List Value)).toArray 49 (0, 0)) :: H))) rfl ?_
  refine l_nil ?_
  refine e_next ?_
  refine t_seq ?_
  refine t_region ?_
  refine l_op rfl (o_val rfl rfl (r_move rfl rfl) ?_)
  refine l_op rfl (o_val rfl rfl (r_sliceFrom rfl rfl rfl Try.underlying37 Try.sizeOf5 (by omega) (by omega)) ?_)
  refine l_op rfl (o_val rfl rfl (r_assign rfl rfl) ?_)
  refine l_nil ?_
  refine e_next ?_
  refine t_seq ?_
  refine t_seq ?_
  refine t_region ?_
  refine l_op rfl (o_val rfl rfl (r_fieldAddr (k := 0) rfl rfl Try.underlying49 rfl Try.sizeOf41 rfl rfl) ?_)
  refine l_op rfl (o_val rfl rfl (r_load (v := .int .i64 (2)) rfl Try.isAgg41 rfl List.mem_cons_self rfl) ?_)
  refine l_nil ?_
  refine e_next ?_
  refine t_block ?_
  refine t_seq ?_
  refine t_block ?_
  refine t_seq ?_
  refine t_block ?_
  refine t_seq ?_
  refine t_block ?_
  refine t_block ?_
  refine t_seq ?_
  refine t_block ?_
  refine t_seq ?_
  refine t_block ?_
  refine t_block ?_
  refine t_seq ?_
  refine t_block ?_
  refine t_seq ?_
  refine t_block ?_
  refine t_block ?_
  refine t_seq ?_
  refine t_seq ?_
  refine t_seq ?_
  refine t_region ?_
  refine l_op rfl (o_val rfl rfl (Run.eq (v' := .bool false) (r_eq rfl rfl rfl) (by rfl)) ?_)
  refine l_op rfl (o_val rfl rfl (r_assign rfl rfl) ?_)
  refine l_nil ?_
  refine e_next ?_
  refine t_false rfl ?_
  refine t_skip ?_
  refine e_next ?_
  refine t_seq ?_
  refine t_seq ?_
  refine t_region ?_
  refine l_op rfl (o_val rfl rfl (Run.eq (v' := .bool false) (r_eq rfl rfl rfl) (by rfl)) ?_)
  refine l_op rfl (o_val rfl rfl (r_assign rfl rfl) ?_)
  refine l_nil ?_
  refine e_next ?_
  refine t_false rfl ?_
  refine t_skip ?_
  refine e_next ?_
  refine t_seq ?_
  refine t_seq ?_
  refine t_region ?_
  refine l_op rfl (o_val rfl rfl (Run.eq (v' := .bool true) (r_eq rfl rfl rfl) (by rfl)) ?_)
  refine l_op rfl (o_val rfl rfl (r_assign rfl rfl) ?_)
  refine l_nil ?_
  refine e_next ?_
  refine t_true rfl ?_
  refine t_exit ?_
  refine e_pass_exit ?_
  refine e_pass_exit ?_
  refine e_block_on rfl ?_
  refine e_block_on rfl ?_
  refine e_pass_exit ?_
  refine e_block_here ?_
  refine e_next ?_
  refine t_seq ?_
  refine t_region ?_
  refine l_op rfl (o_val rfl rfl (r_move rfl rfl) ?_)
  refine l_op rfl (o_inline (N' := 24) rfl rfl rfl Try.call30 rfl Try.func30 rfl rfl rfl ?_)
  show Then E 24 [(0, .slice (slAddr a c 1 1) (3 - 1) (c - 1))] _ _
  refine t_seq ?_
  refine t_region ?_
  refine l_op rfl (o_val rfl rfl (r_assign rfl rfl) ?_)
  refine l_op rfl (o_val rfl rfl (r_assign rfl rfl) ?_)
  refine l_nil ?_
  refine e_next ?_
  refine t_seq ?_
  refine t_region ?_
  refine l_op rfl (o_val rfl rfl (r_move rfl rfl) ?_)
  refine l_op rfl (o_inline (N' := 53) rfl rfl rfl Try.call50 rfl Try.func50 rfl rfl rfl ?_)
  show Then E 53 [(0, .slice (slAddr a c 1 1) (3 - 1) (c - 1))] _ _
  refine t_seq ?_
  refine t_region ?_
  refine l_op rfl (o_val rfl rfl (r_assign rfl rfl) ?_)
  refine l_op rfl (o_val rfl rfl (r_assign rfl rfl) ?_)
  refine l_op rfl (o_val rfl rfl (r_assign rfl rfl) ?_)
  refine l_nil ?_
  refine e_next ?_
  refine t_seq ?_
  refine t_region ?_
  refine l_op rfl (o_val rfl rfl (r_assign rfl rfl) ?_)
  refine l_nil ?_
  refine e_next ?_
  refine t_seq ?_
  refine t_seq ?_
  refine t_region ?_
  refine l_op rfl (o_val rfl rfl (r_move rfl rfl) ?_)
  refine l_op rfl (o_val rfl rfl (Run.eq (v' := .int .i64 2) (r_len rfl rfl Try.underlying37) (by rfl)) ?_)
  refine l_op rfl (o_val rfl rfl (r_move rfl rfl) ?_)
  refine l_nil ?_
  refine e_next ?_
  refine t_block ?_
  refine t_unroll 4 ?_
  refine t_round ?_
  refine t_seq ?_
  refine t_region ?_
  refine l_op rfl (o_val rfl rfl (Run.eq (v' := .bool true) (r_lt rfl rfl rfl) (by rfl)) ?_)
  refine l_nil ?_
  refine e_next ?_
  refine t_seq ?_
  refine t_true rfl ?_
  refine t_skip ?_
  refine e_next ?_
  refine t_seq ?_
  refine t_block ?_
  refine t_seq ?_
  refine t_region ?_
  refine l_op rfl (o_val rfl rfl (r_move rfl rfl) ?_)
  obtain ⟨b4, o4, cs4, T4, fz4, ha4, hm4, hr4⟩ := SliceAt.opn (SliceAt.drop (k := 1) hs (by omega)) (by omega)
  refine l_op rfl (o_val rfl rfl (r_indexAddr rfl rfl ha4 rfl Try.underlying37 Try.sizeOf5 (by omega) (by omega)) ?_)
  refine l_op rfl (o_val rfl rfl (Run.eq (v' := .int .u8 172) (r_load (v := .int .u8 (((((([2, 172, 2] : List UInt8).drop 1)[0]!)).toNat : Int))) rfl Try.isAgg5 rfl ((fun p hp => (List.mem_cons_of_mem _ (List.mem_cons_of_mem _ hp))) _ hm4) (At.get0 (Row.elem hr4 (getBangI (l := (([2, 172, 2] : List UInt8).drop 1)) (j := 0) (i := 0) (by first | rfl | omega) (by have hh_ := SliceAt.len (SliceAt.drop (k := 1) hs (by omega)); omega))) rfl)) (by rfl)) ?_)
  refine l_op rfl (o_val rfl rfl (r_assign rfl rfl) ?_)
  refine l_op rfl (o_val rfl rfl (r_assign rfl rfl) ?_)
  refine l_nil ?_
  refine e_next ?_
  refine t_seq ?_
  refine t_region ?_
  refine l_op rfl (o_val rfl rfl (r_move rfl rfl) ?_)
  refine l_op rfl (o_val rfl rfl (Run.eq (v' := .bool false) (r_lt rfl rfl rfl) (by rfl)) ?_)
  refine l_op rfl (o_val rfl rfl (r_assign rfl rfl) ?_)
  refine l_nil ?_
  refine e_next ?_
  refine t_seq ?_
  refine t_block ?_
  refine t_seq ?_
  refine t_region ?_
  refine l_op rfl (o_val rfl rfl (r_move rfl rfl) ?_)
  refine l_op rfl (o_val rfl rfl (Run.eq (v' := .bool false) (r_eq rfl rfl rfl) (by rfl)) ?_)
  refine l_op rfl (o_val rfl rfl (r_move rfl rfl) ?_)
  refine l_no rfl rfl rfl rfl rfl rfl ?_
  refine l_no rfl rfl rfl rfl rfl rfl ?_
  refine l_op rfl (o_val rfl rfl (r_pickf rfl rfl rfl) ?_)
  refine l_op rfl (o_val rfl rfl (r_assign rfl rfl) ?_)
  refine l_nil ?_
  refine e_next ?_
  refine t_false rfl ?_
  refine t_seq ?_
  refine t_region ?_
  refine l_op rfl (o_val rfl rfl (r_move rfl rfl) ?_)
  refine l_op rfl (o_val rfl rfl (r_move rfl rfl) ?_)
  refine l_no rfl rfl rfl rfl rfl rfl ?_
  refine l_no rfl rfl rfl rfl rfl rfl ?_
  refine l_op rfl (o_val rfl rfl (r_pickf rfl rfl rfl) ?_)
  refine l_op rfl (o_val rfl rfl (r_move rfl rfl) ?_)
  refine l_no rfl rfl rfl rfl rfl rfl ?_
  refine l_no rfl rfl rfl rfl rfl rfl ?_
  refine l_op rfl (o_val rfl rfl (r_pickf rfl rfl rfl) ?_)
  refine l_op rfl (o_val rfl rfl (r_assign rfl rfl) ?_)
  refine l_nil ?_
  refine e_next ?_
  refine t_false rfl ?_
  refine t_skip ?_
  refine e_block _ ?_
  refine e_next ?_
  refine t_seq ?_
  refine t_region ?_
  refine l_op rfl (o_val rfl rfl (r_move rfl rfl) ?_)
  refine l_op rfl (o_val rfl rfl (r_move rfl rfl) ?_)
  refine l_op rfl (o_val rfl rfl (Run.eq (v' := .int .u8 44) (r_w8and (a := (172 : UInt8)) (b := (127 : UInt8)) rfl rfl rfl) (by rfl)) ?_)
  refine l_op rfl (o_val rfl rfl (Run.eq (v' := .int .u64 44) (r_conv rfl rfl Try.underlying5 Try.underlying60) (by rfl)) ?_)
  refine l_op rfl (o_val rfl rfl (r_move rfl rfl) ?_)
  refine l_op rfl (o_val rfl rfl (Run.eq (v' := .int .i64 0) (r_mul rfl rfl rfl (by decide) (by decide)) (by rfl)) ?_)
  refine l_op rfl (o_val rfl rfl (Run.eq (v' := .int .u64 0) (r_conv rfl rfl Try.underlying3 Try.underlying55) (by rfl)) ?_)
  refine l_op rfl (o_val rfl rfl (Run.eq (v' := .int .u64 44) (r_w64shl (a := (44 : UInt64)) (0 : UInt64) rfl rfl rfl (by decide) rfl) (by rfl)) ?_)
  refine l_op rfl (o_val rfl rfl (Run.eq (v' := .int .u64 44) (r_w64or (a := (0 : UInt64)) (b := (44 : UInt64)) rfl rfl rfl) (by rfl)) ?_)
  refine l_op rfl (o_val rfl rfl (r_assign rfl rfl) ?_)
  refine l_nil ?_
  refine e_next ?_
  refine t_seq ?_
  refine t_region ?_
  refine l_op rfl (o_val rfl rfl (r_move rfl rfl) ?_)
  refine l_nil ?_
  refine e_next ?_
  refine t_false rfl ?_
  refine t_skip ?_
  refine e_block _ ?_
  refine e_next ?_
  refine t_region ?_
  refine l_op rfl (o_val rfl rfl (Run.eq (v' := .int .i64 1) (r_add rfl rfl rfl (by decide) (by decide)) (by rfl)) ?_)
  refine l_op rfl (o_val rfl rfl (r_move rfl rfl) ?_)
  refine l_nil ?_
  refine e_next ?_
  refine t_round ?_
  refine t_seq ?_
  refine t_region ?_
  refine l_op rfl (o_val rfl rfl (Run.eq (v' := .bool true) (r_lt rfl rfl rfl) (by rfl)) ?_)
  refine l_nil ?_
  refine e_next ?_
  refine t_seq ?_
  refine t_true rfl ?_
  refine t_skip ?_
  refine e_next ?_
  refine t_seq ?_
  refine t_block ?_
  refine t_seq ?_
  refine t_region ?_
  refine l_op rfl (o_val rfl rfl (r_move rfl rfl) ?_)
  refine l_op rfl (o_val rfl rfl (r_indexAddr rfl rfl ha4 rfl Try.underlying37 Try.sizeOf5 (by omega) (by omega)) ?_)
  refine l_op rfl (o_val rfl rfl (Run.eq (v' := .int .u8 2) (r_load (v := .int .u8 (((((([2, 172, 2] : List UInt8).drop 1)[1]!)).toNat : Int))) rfl Try.isAgg5 rfl ((fun p hp => (List.mem_cons_of_mem _ (List.mem_cons_of_mem _ hp))) _ hm4) (At.get0 (Row.elem hr4 (getBangI (l := (([2, 172, 2] : List UInt8).drop 1)) (j := 1) (i := 1) (by first | rfl | omega) (by have hh_ := SliceAt.len (SliceAt.drop (k := 1) hs (by omega)); omega))) rfl)) (by rfl)) ?_)
  refine l_op rfl (o_val rfl rfl (r_assign rfl rfl) ?_)
  refine l_op rfl (o_val rfl rfl (r_assign rfl rfl) ?_)
  refine l_nil ?_
  refine Then.slots (.cons (t := 0) rfl (.cons (t := 2) rfl (.cons (t := 3) rfl (.cons (t := 4) rfl (.cons (t := 5) rfl (.cons (t := 6) rfl (.cons (t := 7) rfl (.cons (t := 8) rfl (.cons (t := 9) rfl (.cons (t := 10) rfl (.cons (t := 11) rfl (.cons (t := 12) rfl (.cons (t := 13) rfl (.cons (t := 14) rfl (.cons (t := 15) rfl (.cons (t := 16) rfl (.cons (t := 17) rfl (.cons (t := 18) rfl (.cons (t := 19) rfl (.cons (t := 20) rfl (.cons (t := 21) rfl (.cons (t := 22) rfl (.cons (t := 23) rfl (.cons (t := 24) rfl (.cons (t := 26) rfl (.cons (t := 27) rfl (.cons (t := 28) rfl (.cons (t := 29) rfl (.cons (t := 30) rfl (.cons (t := 31) rfl (.cons (t := 32) rfl (.cons (t := 33) rfl (.cons (t := 34) rfl (.cons (t := 35) rfl (.cons (t := 37) rfl (.cons (t := 38) rfl (.cons (t := 39) rfl (.cons (t := 40) rfl (.cons (t := 41) rfl (.cons (t := 42) rfl (.cons (t := 43) rfl (.cons (t := 44) rfl (.cons (t := 45) rfl (.cons (t := 46) rfl (.cons (t := 50) rfl .nil))))))))))))))))))))))))))))))))))))))))))))) ?_
  refine e_next ?_
  refine t_seq ?_
  refine t_region ?_
  refine l_op rfl (o_val rfl rfl (r_move rfl rfl) ?_)
  refine l_op rfl (o_val rfl rfl (Run.eq (v' := .bool true) (r_lt rfl rfl rfl) (by rfl)) ?_)
  refine l_op rfl (o_val rfl rfl (r_assign rfl rfl) ?_)
  refine l_nil ?_
  refine e_next ?_
  refine t_seq ?_
  refine t_block ?_
  refine t_seq ?_
  refine t_region ?_
  refine l_op rfl (o_val rfl rfl (r_move rfl rfl) ?_)
  refine l_op rfl (o_val rfl rfl (Run.eq (v' := .bool false) (r_eq rfl rfl rfl) (by rfl)) ?_)
  refine l_op rfl (o_val rfl rfl (r_move rfl rfl) ?_)
  refine l_no rfl rfl rfl rfl rfl rfl ?_
  refine l_no rfl rfl rfl rfl rfl rfl ?_
  refine l_op rfl (o_val rfl rfl (r_pickf rfl rfl rfl) ?_)
  refine l_op rfl (o_val rfl rfl (r_assign rfl rfl) ?_)
  refine l_nil ?_
  refine Then.slots (.cons (t := 0) rfl (.cons (t := 2) rfl (.cons (t := 3) rfl (.cons (t := 4) rfl (.cons (t := 5) rfl (.cons (t := 6) rfl (.cons (t := 7) rfl (.cons (t := 8) rfl (.cons (t := 9) rfl (.cons (t := 10) rfl (.cons (t := 11) rfl (.cons (t := 12) rfl (.cons (t := 13) rfl (.cons (t := 14) rfl (.cons (t := 15) rfl (.cons (t := 16) rfl (.cons (t := 17) rfl (.cons (t := 18) rfl (.cons (t := 19) rfl (.cons (t := 20) rfl (.cons (t := 21) rfl (.cons (t := 22) rfl (.cons (t := 23) rfl (.cons (t := 24) rfl (.cons (t := 26) rfl (.cons (t := 27) rfl (.cons (t := 28) rfl (.cons (t := 29) rfl (.cons (t := 30) rfl (.cons (t := 31) rfl (.cons (t := 32) rfl (.cons (t := 33) rfl (.cons (t := 34) rfl (.cons (t := 35) rfl (.cons (t := 37) rfl (.cons (t := 38) rfl (.cons (t := 39) rfl (.cons (t := 40) rfl (.cons (t := 41) rfl (.cons (t := 42) rfl (.cons (t := 43) rfl (.cons (t := 44) rfl (.cons (t := 45) rfl (.cons (t := 46) rfl (.cons (t := 50) rfl .nil))))))))))))))))))))))))))))))))))))))))))))) ?_
  refine e_next ?_
  refine t_false rfl ?_
  refine t_seq ?_
  refine t_region ?_
  refine l_op rfl (o_val rfl rfl (r_move rfl rfl) ?_)
  refine l_op rfl (o_val rfl rfl (r_move rfl rfl) ?_)
  refine l_yes rfl rfl rfl (o_val rfl rfl (r_move rfl rfl) ?_)
  refine l_yes rfl rfl rfl (o_val rfl rfl (Run.eq (v' := .bool false) (r_eq rfl rfl rfl) (by rfl)) ?_)
  refine l_op rfl (o_val rfl rfl (r_pickt rfl rfl rfl) ?_)
  refine l_op rfl (o_val rfl rfl (r_move rfl rfl) ?_)
  refine l_no rfl rfl rfl rfl rfl rfl ?_
  refine l_no rfl rfl rfl rfl rfl rfl ?_
  refine l_op rfl (o_val rfl rfl (r_pickf rfl rfl rfl) ?_)
  refine l_op rfl (o_val rfl rfl (r_assign rfl rfl) ?_)
  refine l_nil ?_
  refine Then.slots (.cons (t := 0) rfl (.cons (t := 2) rfl (.cons (t := 3) rfl (.cons (t := 4) rfl (.cons (t := 5) rfl (.cons (t := 6) rfl (.cons (t := 7) rfl (.cons (t := 8) rfl (.cons (t := 9) rfl (.cons (t := 10) rfl (.cons (t := 11) rfl (.cons (t := 12) rfl (.cons (t := 13) rfl (.cons (t := 14) rfl (.cons (t := 15) rfl (.cons (t := 16) rfl (.cons (t := 17) rfl (.cons (t := 18) rfl (.cons (t := 19) rfl (.cons (t := 20) rfl (.cons (t := 21) rfl (.cons (t := 22) rfl (.cons (t := 23) rfl (.cons (t := 24) rfl (.cons (t := 26) rfl (.cons (t := 27) rfl (.cons (t := 28) rfl (.cons (t := 29) rfl (.cons (t := 30) rfl (.cons (t := 31) rfl (.cons (t := 32) rfl (.cons (t := 33) rfl (.cons (t := 34) rfl (.cons (t := 35) rfl (.cons (t := 37) rfl (.cons (t := 38) rfl (.cons (t := 39) rfl (.cons (t := 40) rfl (.cons (t := 41) rfl (.cons (t := 42) rfl (.cons (t := 43) rfl (.cons (t := 44) rfl (.cons (t := 45) rfl (.cons (t := 46) rfl (.cons (t := 50) rfl .nil))))))))))))))))))))))))))))))))))))))))))))) ?_
  refine e_next ?_
  refine t_false rfl ?_
  refine t_skip ?_
  refine e_block _ ?_
  refine e_next ?_
  refine t_seq ?_
  refine t_region ?_
  refine l_op rfl (o_val rfl rfl (r_move rfl rfl) ?_)
  refine l_op rfl (o_val rfl rfl (r_move rfl rfl) ?_)
  refine l_op rfl (o_val rfl rfl (Run.eq (v' := .int .u8 2) (r_w8and (a := (2 : UInt8)) (b := (127 : UInt8)) rfl rfl rfl) (by rfl)) ?_)
  refine l_op rfl (o_val rfl rfl (Run.eq (v' := .int .u64 2) (r_conv rfl rfl Try.underlying5 Try.underlying60) (by rfl)) ?_)
  refine l_op rfl (o_val rfl rfl (r_move rfl rfl) ?_)
  refine l_op rfl (o_val rfl rfl (Run.eq (v' := .int .i64 7) (r_mul rfl rfl rfl (by decide) (by decide)) (by rfl)) ?_)
  refine l_op rfl (o_val rfl rfl (Run.eq (v' := .int .u64 7) (r_conv rfl rfl Try.underlying3 Try.underlying55) (by rfl)) ?_)
  refine l_op rfl (o_val rfl rfl (Run.eq (v' := .int .u64 256) (r_w64shl (a := (2 : UInt64)) (7 : UInt64) rfl rfl rfl (by decide) rfl) (by rfl)) ?_)
  refine l_op rfl (o_val rfl rfl (Run.eq (v' := .int .u64 300) (r_w64or (a := (44 : UInt64)) (b := (256 : UInt64)) rfl rfl rfl) (by rfl)) ?_)
  refine l_op rfl (o_val rfl rfl (r_assign rfl rfl) ?_)
  refine l_nil ?_
  refine Then.slots (.cons (t := 0) rfl (.cons (t := 2) rfl (.cons (t := 3) rfl (.cons (t := 4) rfl (.cons (t := 5) rfl (.cons (t := 6) rfl (.cons (t := 7) rfl (.cons (t := 8) rfl (.cons (t := 9) rfl (.cons (t := 10) rfl (.cons (t := 11) rfl (.cons (t := 12) rfl (.cons (t := 13) rfl (.cons (t := 14) rfl (.cons (t := 15) rfl (.cons (t := 16) rfl (.cons (t := 17) rfl (.cons (t := 18) rfl (.cons (t := 19) rfl (.cons (t := 20) rfl (.cons (t := 21) rfl (.cons (t := 22) rfl (.cons (t := 23) rfl (.cons (t := 24) rfl (.cons (t := 26) rfl (.cons (t := 27) rfl (.cons (t := 28) rfl (.cons (t := 29) rfl (.cons (t := 30) rfl (.cons (t := 31) rfl (.cons (t := 32) rfl (.cons (t := 33) rfl (.cons (t := 34) rfl (.cons (t := 35) rfl (.cons (t := 37) rfl (.cons (t := 38) rfl (.cons (t := 39) rfl (.cons (t := 40) rfl (.cons (t := 41) rfl (.cons (t := 42) rfl (.cons (t := 43) rfl (.cons (t := 44) rfl (.cons (t := 45) rfl (.cons (t := 46) rfl (.cons (t := 50) rfl .nil))))))))))))))))))))))))))))))))))))))))))))) ?_
  refine e_next ?_
  refine t_seq ?_
  refine t_region ?_
  refine l_op rfl (o_val rfl rfl (r_move rfl rfl) ?_)
  refine l_nil ?_
  refine e_next ?_
  refine t_true rfl ?_
  refine t_seq ?_
  refine t_region ?_
  refine l_op rfl (o_val rfl rfl (r_move rfl rfl) ?_)
  refine l_op rfl (o_val rfl rfl (r_move rfl rfl) ?_)
  refine l_op rfl (o_val rfl rfl (Run.eq (v' := .int .i64 2) (r_add rfl rfl rfl (by decide) (by decide)) (by rfl)) ?_)
  refine l_op rfl (o_val rfl rfl (r_assign rfl rfl) ?_)
  refine l_op rfl (o_val rfl rfl (r_assign rfl rfl) ?_)
  refine l_op rfl (o_val rfl rfl (r_assign rfl rfl) ?_)
  refine l_nil ?_
  refine e_next ?_
  refine t_ret ?_
  refine e_block_ret ?_
  refine e_pass_ret ?_
  refine e_pass_ret ?_
  refine e_block_ret ?_
  refine e_pass_ret ?_
  refine e_retT rfl (.tmp rfl (.tmp rfl (.tmp rfl .nil))) ?_
  refine l_op rfl (o_val rfl rfl (r_move rfl rfl) ?_)
  refine l_op rfl (o_val rfl rfl (r_extract (v := .int .u64 (300)) rfl rfl rfl) ?_)
  refine l_op rfl (o_val rfl rfl (r_extract (v := .int .i64 (2)) rfl rfl rfl) ?_)
  refine l_op rfl (o_val rfl rfl (r_extract (v := .int .i64 (0)) rfl rfl rfl) ?_)
  refine l_op rfl (o_val rfl rfl (r_assign rfl rfl) ?_)
  refine l_op rfl (o_val rfl rfl (r_assign rfl rfl) ?_)
  refine l_op rfl (o_val rfl rfl (r_assign rfl rfl) ?_)
  refine l_nil ?_
  refine e_next ?_
  refine t_seq ?_
  refine t_seq ?_
  refine t_region ?_
  refine l_op rfl (o_val rfl rfl (r_move rfl rfl) ?_)
  refine l_op rfl (o_val rfl rfl (Run.eq (v' := .bool false) (r_ne rfl rfl rfl) (by rfl)) ?_)
  refine l_op rfl (o_val rfl rfl (r_move rfl rfl) ?_)
  refine l_yes rfl rfl rfl (o_val rfl rfl (r_move rfl rfl) ?_)
  refine l_yes rfl rfl rfl (o_val rfl rfl (Run.eq (v' := .bool false) (r_gt rfl rfl rfl) (by rfl)) ?_)
  refine l_op rfl (o_val rfl rfl (r_pickf rfl rfl rfl) ?_)
  refine l_nil ?_
  refine e_next ?_
  refine t_false rfl ?_
  refine t_skip ?_
  refine e_next ?_
  refine t_seq ?_
  refine t_draw (n := 7) .all rfl (by kernel_rfl) ?_
  refine a_take (i := 0) rfl rfl rfl rfl (by kernel_rfl) (by kernel_rfl) (by kernel_rfl) (fun _ _ _ h => h) .all (r_move rfl rfl) ?_
  refine a_take (i := 1) rfl rfl rfl rfl (by kernel_rfl) (by kernel_rfl) (by kernel_rfl) (fun _ _ _ h => h) .all (Run.eq (v' := .int .i64 300) (r_conv rfl rfl Try.underlying60 Try.underlying3) (by rfl)) ?_
  refine a_take (i := 2) rfl rfl rfl rfl (by kernel_rfl) (by kernel_rfl) (by kernel_rfl) (fun _ _ _ h => h) .all (r_move rfl rfl) ?_
  refine a_take (i := 3) rfl rfl rfl rfl (by kernel_rfl) (by kernel_rfl) (by kernel_rfl) (fun _ _ _ h => h) .all (r_move rfl rfl) ?_
  refine a_take (i := 4) rfl rfl rfl rfl (by kernel_rfl) (by kernel_rfl) (by kernel_rfl) (fun _ _ _ h => h) .all (r_sliceFrom rfl rfl rfl Try.underlying37 Try.sizeOf5 (by omega) (by omega)) ?_
  refine a_take (i := 5) rfl rfl rfl rfl (by kernel_rfl) (by kernel_rfl) (by kernel_rfl) (fun _ _ _ h => h) .all (r_assign rfl rfl) ?_
  refine a_take (i := 6) rfl rfl rfl rfl (by kernel_rfl) (by kernel_rfl) (by kernel_rfl) (fun _ _ _ h => h) .all (r_assign rfl rfl) ?_
  refine a_done (by kernel_rfl) ?_
  refine Then.slots (.cons (t := 2) rfl (.cons (t := 3) rfl .nil)) ?_
  refine e_next ?_
  refine t_ret ?_
  refine e_retT rfl (.tmp rfl (.tmp rfl .nil)) ?_
  refine l_op rfl (o_val rfl rfl (r_move rfl rfl) ?_)
  refine l_op rfl (o_val rfl rfl (r_extract (v := .int .i64 (300)) rfl rfl rfl) ?_)
  refine l_op rfl (o_val rfl rfl (r_extract (v := .slice (slAddr (slAddr a c 1 1) (c - 1) 2 1) ((3 - 1) - 2) ((c - 1) - 2)) rfl rfl rfl) ?_)
  refine l_op rfl (o_val rfl rfl (r_fieldAddr (k := 35) rfl rfl Try.underlying49 rfl Try.sizeOf3 rfl rfl) ?_)
  refine l_op rfl (o_store rfl rfl rfl rfl rfl Try.sizeOf3 .head rfl ?_)
  refine Then.of_eq (H2 := ((b3, .cells (([.int .i64 (2), .int .i64 (0), .int .i64 (0)] : List Value) ++ z8 32 ++ ([.int .i64 (300)] : List Value) ++ z8 32 ++ ([.int .i64 (0), .int .i64 (0)] : List Value) ++ z8 32 ++ ([.int .i64 (0), .int .i64 (0), .string ⟨#[]⟩, .slice none 0 0, .slice none 0 0, .slice none 0 0] : List Value)).toArray 49 (0, 0)) :: ((b1, .cells (([.int .i64 (0), .int .i64 (0), .int .i64 (0)] : List Value) ++ z8 32 ++ ([.int .i64 (0)] : List Value) ++ z8 32 ++ ([.int .i64 (0), .int .i64 (0)] : List Value) ++ z8 32 ++ ([.int .i64 (0), .int .i64 (0), .string ⟨#[]⟩, .slice none 0 0, .slice none 0 0, .slice none 0 0] : List Value)).toArray 49 (0, 0)) :: H))) rfl ?_
  refine l_nil ?_
  refine Then.slots (.cons (t := 0) rfl (.cons (t := 2) rfl (.cons (t := 3) rfl (.cons (t := 4) rfl (.cons (t := 5) rfl .nil))))) ?_
  refine e_next ?_
  refine t_exit ?_
  refine e_block_on rfl ?_
  refine e_block_on rfl ?_
  refine e_pass_exit ?_
  refine e_block_on rfl ?_
  refine e_pass_exit ?_
  refine e_block_on rfl ?_
  refine e_block_on rfl ?_
  refine e_pass_exit ?_
  refine e_block_on rfl ?_
  refine e_pass_exit ?_
  refine e_block_on rfl ?_
  refine e_pass_exit ?_
  refine e_block_here ?_
  refine e_next ?_
  refine t_seq ?_
  refine t_seq ?_
  refine t_region ?_
  refine l_op rfl (o_val rfl rfl (r_loadAgg (xs := ([.int .i64 (2), .int .i64 (0), .int .i64 (0)] : List Value) ++ z8 32 ++ ([.int .i64 (300)] : List Value) ++ z8 32 ++ ([.int .i64 (0), .int .i64 (0)] : List Value) ++ z8 32 ++ ([.int .i64 (0), .int .i64 (0), .string ⟨#[]⟩, .slice none 0 0, .slice none 0 0, .slice none 0 0] : List Value)) rfl Try.isAgg49 Try.sizeOf49 rfl List.mem_cons_self (At.self _) rfl) ?_)
  refine l_op rfl (o_call rfl rfl rfl Try.call20 rfl (askBytes_c) ?_)
  rintro _ _ ⟨v5, X5, rfl, rfl, ho5⟩
  refine l_op rfl (o_val rfl rfl (r_move rfl rfl) ?_)
  refine l_op rfl (o_val rfl rfl (r_extract (v := v5) rfl rfl rfl) ?_)
  refine l_op rfl (o_val rfl rfl (r_extract (v := .int .i64 (0)) rfl rfl rfl) ?_)
  refine l_op rfl (o_val rfl rfl (r_assign rfl rfl) ?_)
  refine l_op rfl (o_val rfl rfl (r_assign rfl rfl) ?_)
  refine l_nil ?_
  refine e_next ?_
  refine t_seq ?_
  refine t_region ?_
  refine l_op rfl (o_val rfl rfl (r_move rfl rfl) ?_)
  refine l_op rfl (o_val rfl rfl (Run.eq (v' := .bool false) (r_ne rfl rfl rfl) (by rfl)) ?_)
  refine l_op rfl (o_val rfl rfl (r_move rfl rfl) ?_)
  refine l_yes rfl rfl rfl (o_val rfl rfl (r_move rfl rfl) ?_)
  refine l_yes rfl rfl rfl (o_val rfl rfl (r_move rfl rfl) ?_)
  obtain ⟨a6, c6, hv6, hsl6⟩ := Own.at (enc := encU8) (l := ([2, 172, 2] : List UInt8)) ho5
  subst hv6
  have hcp6 := SliceAt.cap hsl6
  have hlt6 : (([2, 172, 2] : List UInt8)).length = 3 := rfl
  refine l_yes rfl rfl rfl (o_call rfl rfl rfl Try.call35 rfl (bequal_c (l := ([2, 172, 2] : List UInt8)) (m := ([2, 172, 2] : List UInt8)) (SliceAt.mono hsl6 (fun p hp => (List.mem_append_left _ hp))) (SliceAt.mono hs (fun p hp => (List.mem_append_right _ (List.mem_cons_of_mem _ (List.mem_cons_of_mem _ hp)))))) ?_)
  rintro _ _ ⟨rfl, he⟩
  rw [he, show decide ((([2, 172, 2] : List UInt8) : List UInt8) = ([2, 172, 2] : List UInt8)) = true from rfl]
  clear he
  refine l_yes rfl rfl rfl (o_val rfl rfl (r_not rfl rfl) ?_)
  refine l_op rfl (o_val rfl rfl (r_pickf rfl rfl rfl) ?_)
  refine l_nil ?_
  refine e_next ?_
  refine t_false rfl ?_
  refine t_skip ?_
  refine e_next ?_
  refine t_seq ?_
  refine t_region ?_
  refine l_op rfl (o_val rfl rfl (r_loadAgg (xs := ([.int .i64 (2), .int .i64 (0), .int .i64 (0)] : List Value) ++ z8 32 ++ ([.int .i64 (300)] : List Value) ++ z8 32 ++ ([.int .i64 (0), .int .i64 (0)] : List Value) ++ z8 32 ++ ([.int .i64 (0), .int .i64 (0), .string ⟨#[]⟩, .slice none 0 0, .slice none 0 0, .slice none 0 0] : List Value)) rfl Try.isAgg49 Try.sizeOf49 rfl (List.mem_append_right _ List.mem_cons_self) (At.self _) rfl) ?_)
  refine l_op rfl (o_storeAgg (ys := ([.int .i64 (2), .int .i64 (0), .int .i64 (0)] : List Value) ++ z8 32 ++ ([.int .i64 (300)] : List Value) ++ z8 32 ++ ([.int .i64 (0), .int .i64 (0)] : List Value) ++ z8 32 ++ ([.int .i64 (0), .int .i64 (0), .string ⟨#[]⟩, .slice none 0 0, .slice none 0 0, .slice none 0 0] : List Value)) rfl rfl rfl rfl rfl Try.sizeOf49 (.app (.tail .head)) rfl ?_)
  refine Then.of_eq (H2 := ((b1, .cells (([.int .i64 (2), .int .i64 (0), .int .i64 (0)] : List Value) ++ z8 32 ++ ([.int .i64 (300)] : List Value) ++ z8 32 ++ ([.int .i64 (0), .int .i64 (0)] : List Value) ++ z8 32 ++ ([.int .i64 (0), .int .i64 (0), .string ⟨#[]⟩, .slice none 0 0, .slice none 0 0, .slice none 0 0] : List Value)).toArray 49 (0, 0)) :: (X5 ++ ((b3, .cells (([.int .i64 (2), .int .i64 (0), .int .i64 (0)] : List Value) ++ z8 32 ++ ([.int .i64 (300)] : List Value) ++ z8 32 ++ ([.int .i64 (0), .int .i64 (0)] : List Value) ++ z8 32 ++ ([.int .i64 (0), .int .i64 (0), .string ⟨#[]⟩, .slice none 0 0, .slice none 0 0, .slice none 0 0] : List Value)).toArray 49 (0, 0)) :: H)))) rfl ?_
  refine l_op rfl (o_val rfl rfl (r_assign rfl rfl) ?_)
  refine l_nil ?_
  refine e_next ?_
  refine t_ret ?_
  exact e_ret rfl (.agg rfl Try.isAgg49 Try.sizeOf49 List.mem_cons_self (At.self _) rfl (.tmp rfl .nil)) ⟨rfl, Pre.ex (.cons (.app (.cons .refl)))⟩

set_option maxHeartbeats 2000000 in
set_option maxRecDepth 100000 in
theorem awake_c {E : Env} {H : Heap} :
    Fn Try.prog 11 [] E H (fun v H2 => v = .bool true ∧ ∃ X, H2 = X ++ H) := by
  refine Fn.of_body (N := 37) Try.func11 rfl rfl rfl ?_
  refine t_seq ?_
  refine t_region ?_
  refine l_op rfl (o_val rfl rfl (r_assign rfl rfl) ?_)
  refine l_nil ?_
  refine e_next ?_
  refine t_seq ?_
  refine t_region ?_
  refine l_op rfl (o_val rfl rfl (r_build (cells := ([.int .i64 (2), .int .i64 (0), .int .i64 (0)] : List Value) ++ z8 32 ++ ([.int .i64 (300)] : List Value) ++ z8 32 ++ ([.int .i64 (0), .int .i64 (0)] : List Value) ++ z8 32 ++ ([.int .i64 (0), .int .i64 (0), .string ⟨#[]⟩, .slice none 0 0, .slice none 0 0, .slice none 0 0] : List Value)) rfl rfl (by kernel_rfl)) ?_)
  refine l_op rfl (o_call rfl rfl rfl Try.call20 rfl (askBytes_c) ?_)
  rintro _ _ ⟨v1, X1, rfl, rfl, ho1⟩
  refine l_op rfl (o_val rfl rfl (r_move rfl rfl) ?_)
  refine l_op rfl (o_val rfl rfl (r_extract (v := v1) rfl rfl rfl) ?_)
  refine l_op rfl (o_val rfl rfl (r_extract (v := .int .i64 (0)) rfl rfl rfl) ?_)
  refine l_op rfl (o_val rfl rfl (r_assign rfl rfl) ?_)
  refine l_op rfl (o_val rfl rfl (r_assign rfl rfl) ?_)
  refine l_nil ?_
  refine e_next ?_
  refine t_seq ?_
  refine t_region ?_
  refine l_op rfl (o_val rfl rfl (r_move rfl rfl) ?_)
  obtain ⟨a2, c2, hv2, hsl2⟩ := Own.at (enc := encU8) (l := ([2, 172, 2] : List UInt8)) ho1
  subst hv2
  have hcp2 := SliceAt.cap hsl2
  have hlt2 : (([2, 172, 2] : List UInt8)).length = 3 := rfl
  refine l_op rfl (o_call rfl rfl rfl Try.call21 rfl (askParse_c (SliceAt.mono hsl2 (fun p hp => (List.mem_append_left _ hp)))) ?_)
  rintro _ _ ⟨rfl, X3, rfl⟩
  refine l_op rfl (o_val rfl rfl (r_move rfl rfl) ?_)
  refine l_op rfl (o_val rfl rfl (r_extract (v := .agg (([.int .i64 (2), .int .i64 (0), .int .i64 (0)] : List Value) ++ z8 32 ++ ([.int .i64 (300)] : List Value) ++ z8 32 ++ ([.int .i64 (0), .int .i64 (0)] : List Value) ++ z8 32 ++ ([.int .i64 (0), .int .i64 (0), .string ⟨#[]⟩, .slice none 0 0, .slice none 0 0, .slice none 0 0] : List Value)).toArray) rfl rfl rfl) ?_)
  refine l_op rfl (o_val rfl rfl (r_extract (v := .int .i64 (0)) rfl rfl rfl) ?_)
  refine l_op rfl (o_alloc (zs := ([.int .i64 (0), .int .i64 (0), .int .i64 (0)] : List Value) ++ z8 32 ++ ([.int .i64 (0)] : List Value) ++ z8 32 ++ ([.int .i64 (0), .int .i64 (0)] : List Value) ++ z8 32 ++ ([.int .i64 (0), .int .i64 (0), .string ⟨#[]⟩, .slice none 0 0, .slice none 0 0, .slice none 0 0] : List Value)) rfl rfl rfl Try.zeroValue49 (by kernel_rfl) ?_)
  intro b4
  refine l_op rfl (o_storeAgg (ys := ([.int .i64 (2), .int .i64 (0), .int .i64 (0)] : List Value) ++ z8 32 ++ ([.int .i64 (300)] : List Value) ++ z8 32 ++ ([.int .i64 (0), .int .i64 (0)] : List Value) ++ z8 32 ++ ([.int .i64 (0), .int .i64 (0), .string ⟨#[]⟩, .slice none 0 0, .slice none 0 0, .slice none 0 0] : List Value)) rfl rfl rfl rfl rfl Try.sizeOf49 .head rfl ?_)
  refine Then.of_eq (H2 := ((b4, .cells (([.int .i64 (2), .int .i64 (0), .int .i64 (0)] : List Value) ++ z8 32 ++ ([.int .i64 (300)] : List Value) ++ z8 32 ++ ([.int .i64 (0), .int .i64 (0)] : List Value) ++ z8 32 ++ ([.int .i64 (0), .int .i64 (0), .string ⟨#[]⟩, .slice none 0 0, .slice none 0 0, .slice none 0 0] : List Value)).toArray 49 (0, 0)) :: (X3 ++ (X1 ++ H)))) rfl ?_
  refine l_op rfl (o_val rfl rfl (r_assign rfl rfl) ?_)
  refine l_nil ?_
  refine e_next ?_
  refine t_seq ?_
  refine t_region ?_
  refine l_op rfl (o_val rfl rfl (r_move rfl rfl) ?_)
  refine l_op rfl (o_val rfl rfl (Run.eq (v' := .bool true) (r_eq rfl rfl rfl) (by rfl)) ?_)
  refine l_op rfl (o_val rfl rfl (r_move rfl rfl) ?_)
  refine l_yes rfl rfl rfl (o_val rfl rfl (r_move rfl rfl) ?_)
  refine l_yes rfl rfl rfl (o_val rfl rfl (Run.eq (v' := .bool true) (r_eq rfl rfl rfl) (by rfl)) ?_)
  refine l_op rfl (o_val rfl rfl (r_pickt rfl rfl rfl) ?_)
  refine l_op rfl (o_val rfl rfl (r_move rfl rfl) ?_)
  refine l_yes rfl rfl rfl (o_val rfl rfl (r_move rfl rfl) ?_)
  refine l_yes rfl rfl rfl (o_val rfl rfl (Run.eq (v' := .int .i64 3) (r_len rfl rfl Try.underlying37) (by rfl)) ?_)
  refine l_yes rfl rfl rfl (o_val rfl rfl (Run.eq (v' := .bool true) (r_eq rfl rfl rfl) (by rfl)) ?_)
  refine l_op rfl (o_val rfl rfl (r_pickt rfl rfl rfl) ?_)
  refine l_op rfl (o_val rfl rfl (r_move rfl rfl) ?_)
  refine l_yes rfl rfl rfl (o_val rfl rfl (r_move rfl rfl) ?_)
  obtain ⟨b5, o5, cs5, T5, fz5, ha5, hm5, hr5⟩ := SliceAt.opn hsl2 (by omega)
  refine l_yes rfl rfl rfl (o_val rfl rfl (r_indexAddr rfl rfl ha5 rfl Try.underlying37 Try.sizeOf5 (by omega) (by omega)) ?_)
  refine l_yes rfl rfl rfl (o_val rfl rfl (Run.eq (v' := .int .u8 172) (r_load (v := .int .u8 ((((([2, 172, 2] : List UInt8)[1]!)).toNat : Int))) rfl Try.isAgg5 rfl ((fun p hp => (List.mem_cons_of_mem _ (List.mem_append_right _ (List.mem_append_left _ hp)))) _ hm5) (At.get0 (Row.elem hr5 (getBangI (l := ([2, 172, 2] : List UInt8)) (j := 1) (i := 1) (by first | rfl | omega) (by have hh_ := SliceAt.len hsl2; omega))) rfl)) (by rfl)) ?_)
  refine l_yes rfl rfl rfl (o_val rfl rfl (Run.eq (v' := .bool true) (r_eq rfl rfl rfl) (by rfl)) ?_)
  refine l_op rfl (o_val rfl rfl (r_pickt rfl rfl rfl) ?_)
  refine l_op rfl (o_val rfl rfl (r_move rfl rfl) ?_)
  refine l_yes rfl rfl rfl (o_val rfl rfl (r_fieldAddr (k := 35) rfl rfl Try.underlying49 rfl Try.sizeOf3 rfl rfl) ?_)
  refine l_yes rfl rfl rfl (o_val rfl rfl (r_load (v := .int .i64 (300)) rfl Try.isAgg3 rfl List.mem_cons_self rfl) ?_)
  refine l_yes rfl rfl rfl (o_val rfl rfl (Run.eq (v' := .bool true) (r_eq rfl rfl rfl) (by rfl)) ?_)
  refine l_op rfl (o_val rfl rfl (r_pickt rfl rfl rfl) ?_)
  refine l_op rfl (o_val rfl rfl (r_assign rfl rfl) ?_)
  refine l_nil ?_
  refine Then.slots (.cons (t := 0) rfl .nil) ?_
  refine e_next ?_
  refine t_ret ?_
  exact e_ret rfl (.tmp rfl .nil) ⟨rfl, Pre.ex (.cons (.app (.app .refl)))⟩

end Go.Sal.Sh
