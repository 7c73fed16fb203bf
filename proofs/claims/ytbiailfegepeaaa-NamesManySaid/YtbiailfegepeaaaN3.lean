/- The walk over NamesFolds. -/
import Derived.Test.YtbiailfegepeaaaSim
import Derived.Test.YtbiailfegepeaaaN2
namespace Go.Sal.Nm
open Go Go.Sal Go.Proofs
set_option linter.unusedVariables false
set_option linter.unusedSimpArgs false
set_option maxRecDepth 100000 in
theorem folds_c {E : Env} {H D : Heap} (hD : ∀ p, p ∈ D → p ∈ H) {a : Option Addr} {n c : Nat} {rl : List RP2} (hrl : SliceAt D encRecP 38 a n c rl) (hra : RecsAt D rl) (hn : n ≤ 9223372036854775807) :
    Fn Try.prog 3 [.slice a n c] E H (fun v H2 => v = .bool true ∧ ∃ X, H2 = X ++ H) := by
  refine Fn.of_body (N := 52) Try.func3 rfl rfl rfl ?_
  refine t_seq ?_
  refine t_region ?_
  refine l_op rfl (o_val rfl rfl (r_assign rfl rfl) ?_)
  refine l_nil ?_
  refine e_next ?_
  refine t_seq ?_
  refine t_region ?_
  refine l_op rfl (o_val rfl rfl (r_move rfl rfl) ?_)
  refine l_op rfl (o_call rfl rfl rfl Try.call7 rfl (few_c (fun p hp => (hD _ hp)) hrl hra (by omega)) ?_)
  rintro _ _ ⟨a1, n1, c1, X1, rl1, rfl, rfl, hrl1, hra1, hfw1⟩
  refine l_op rfl (o_val rfl rfl (r_assign rfl rfl) ?_)
  refine l_nil ?_
  refine e_next ?_
  refine t_seq ?_
  refine t_region ?_
  refine l_op rfl (o_val rfl rfl (r_move rfl rfl) ?_)
  refine l_op rfl (o_call rfl rfl rfl Try.call8 rfl (of_c (D := (X1 ++ D)) (ds_app (fun p hp => (List.mem_append_left _ hp)) (fun p hp => (List.mem_append_right _ (hD _ hp)))) hrl1 hra1 (by omega)) ?_)
  rintro _ _ (⟨k2, lm2, x2, X2, hr2, hx2, hm2, rfl, rfl⟩ | ⟨bn2, bm2, X2, es2, mc2, m2, hr2, rfl, rfl, him2, hfa2, hbn2⟩)
  · skip
    refine l_op rfl (o_val rfl rfl (r_move rfl rfl) ?_)
    refine l_op rfl (o_val rfl rfl (r_extract (v := .pointer none) rfl rfl rfl) ?_)
    refine l_op rfl (o_val rfl rfl (r_extract (v := .int .i64 ((k2 : Int))) rfl rfl rfl) ?_)
    refine l_op rfl (o_val rfl rfl (r_extract (v := .int .i64 (mayL lm2 x2.1 x2.2)) rfl rfl rfl) ?_)
    refine l_op rfl (o_val rfl rfl (r_assign rfl rfl) ?_)
    refine l_op rfl (o_val rfl rfl (r_assign rfl rfl) ?_)
    refine l_op rfl (o_val rfl rfl (r_assign rfl rfl) ?_)
    refine l_nil ?_
    refine e_next ?_
    refine t_seq ?_
    refine t_region ?_
    refine l_op rfl (o_val rfl rfl (r_move rfl rfl) ?_)
    refine l_op rfl (o_call rfl rfl rfl Try.call9 rfl (rof_c (D := (X1 ++ D)) (ds_app (fun p hp => (List.mem_append_right _ (List.mem_append_left _ hp))) (fun p hp => (List.mem_append_right _ (List.mem_append_right _ (hD _ hp))))) hrl1 hra1 (by omega)) ?_)
    rintro _ _ (⟨k3, lm3, x3, X3, hr3, hx3, hm3, rfl, rfl⟩ | ⟨b3, X3, fa3, fn3, fc3, fl3, hr3, rfl, rfl, hfl3, hra3⟩)
    · skip
      obtain ⟨hk, he⟩ := folds_bad hr2 hx2 hm2 hr3 hx3 hm3
      refine l_op rfl (o_val rfl rfl (r_move rfl rfl) ?_)
      refine l_op rfl (o_val rfl rfl (r_extract (v := .pointer none) rfl rfl rfl) ?_)
      refine l_op rfl (o_val rfl rfl (r_extract (v := .int .i64 ((k3 : Int))) rfl rfl rfl) ?_)
      refine l_op rfl (o_val rfl rfl (r_extract (v := .int .i64 (mayL lm3 x3.1 x3.2)) rfl rfl rfl) ?_)
      refine l_op rfl (o_val rfl rfl (r_assign rfl rfl) ?_)
      refine l_op rfl (o_val rfl rfl (r_assign rfl rfl) ?_)
      refine l_op rfl (o_val rfl rfl (r_assign rfl rfl) ?_)
      refine l_nil ?_
      refine e_next ?_
      refine t_seq ?_
      refine t_seq ?_
      refine t_region ?_
      refine l_op rfl (o_val rfl rfl (r_move rfl rfl) ?_)
      refine l_op rfl (o_val rfl rfl (r_move rfl rfl) ?_)
      refine l_op rfl (o_val rfl rfl (r_ne rfl rfl rfl) ?_)
      have ht4 : decide ((k2 : Int) ≠ (k3 : Int)) = false := decide_eq_false (by simp [hk])
      refine l_op rfl (o_val rfl rfl (r_move rfl rfl) ?_)
      refine l_yesh rfl rfl rfl ht4 (o_val rfl rfl (r_move rfl rfl) ?_)
      refine l_yesh rfl rfl rfl ht4 (o_val rfl rfl (r_move rfl rfl) ?_)
      refine l_yesh rfl rfl rfl ht4 (o_val rfl rfl (r_ne rfl rfl rfl) ?_)
      have ht5 : decide ((mayL lm2 x2.1 x2.2) ≠ (mayL lm3 x3.1 x3.2)) = false := decide_eq_false (by simp [he])
      refine l_op rfl (o_val rfl rfl (r_pickfh rfl rfl ht4 rfl) ?_)
      refine l_op rfl (o_val rfl rfl (r_move rfl rfl) ?_)
      refine l_yesh rfl rfl rfl ht5 (o_val rfl rfl (r_move rfl rfl) ?_)
      refine l_yesh rfl rfl rfl ht5 (o_val rfl rfl (r_eqv rfl rfl rfl rfl rfl (q_nil_nil Try.underlying24)) ?_)
      refine l_yesh rfl rfl rfl ht5 (o_val rfl rfl (r_move rfl rfl) ?_)
      refine l_yesh rfl rfl rfl ht5 (o_val rfl rfl (r_eqv rfl rfl rfl rfl rfl (q_nil_nil Try.underlying28)) ?_)
      refine l_yesh rfl rfl rfl ht5 (o_val rfl rfl (Run.eq (v' := .bool false) (r_bne rfl rfl rfl Try.underlying4) (by rfl)) ?_)
      refine l_op rfl (o_val rfl rfl (r_pickfh rfl rfl ht5 rfl) ?_)
      refine l_nil ?_
      refine Then.slots (.cons (t := 2) rfl (.cons (t := 3) rfl (.cons (t := 6) rfl (.cons (t := 37) rfl .nil)))) ?_
      refine e_next ?_
      refine t_false rfl ?_
      refine t_skip ?_
      refine e_next ?_
      refine t_seq ?_
      refine t_draw (n := 15) .all rfl (by kernel_rfl) ?_
      refine a_take (i := 0) rfl rfl rfl rfl (by kernel_rfl) (by kernel_rfl) (by kernel_rfl) (fun _ _ _ h => h) .all (r_move rfl rfl) ?_
      refine a_take (i := 1) rfl rfl rfl rfl (by kernel_rfl) (by kernel_rfl) (by kernel_rfl) (fun _ _ _ h => h) .all (r_eqv rfl rfl rfl rfl rfl (q_nil_nil Try.underlying28)) ?_
      refine a_take (i := 2) rfl rfl rfl rfl (by kernel_rfl) (by kernel_rfl) (by kernel_rfl) (fun _ _ _ h => h) .all (r_move rfl rfl) ?_
      refine a_skip (i := 3) rfl rfl rfl rfl rfl rfl rfl (by kernel_rfl) (by kernel_rfl) (by kernel_rfl) (fun _ _ _ h => h) .all ?_
      refine a_skip (i := 4) rfl rfl rfl rfl rfl rfl rfl (by kernel_rfl) (by kernel_rfl) (by kernel_rfl) (fun _ _ _ h => h) .all ?_
      refine a_skip (i := 5) rfl rfl rfl rfl rfl rfl rfl (by kernel_rfl) (by kernel_rfl) (by kernel_rfl) (fun _ _ _ h => h) .all ?_
      refine a_skip (i := 6) rfl rfl rfl rfl rfl rfl rfl (by kernel_rfl) (by kernel_rfl) (by kernel_rfl) (fun _ _ _ h => h) .all ?_
      refine a_skip (i := 7) rfl rfl rfl rfl rfl rfl rfl (by kernel_rfl) (by kernel_rfl) (by kernel_rfl) (fun _ _ _ h => h) .all ?_
      refine a_skip (i := 8) rfl rfl rfl rfl rfl rfl rfl (by kernel_rfl) (by kernel_rfl) (by kernel_rfl) (fun _ _ _ h => h) .all ?_
      refine a_skip (i := 9) rfl rfl rfl rfl rfl rfl rfl (by kernel_rfl) (by kernel_rfl) (by kernel_rfl) (fun _ _ _ h => h) .all ?_
      refine a_take (i := 10) rfl rfl rfl rfl (by kernel_rfl) (by kernel_rfl) (by kernel_rfl) (fun _ _ _ h => h) .all (r_pickt rfl rfl rfl) ?_
      refine a_take (i := 11) rfl rfl rfl rfl (by kernel_rfl) (by kernel_rfl) (by kernel_rfl) (fun _ _ _ h => h) .all (r_move rfl rfl) ?_
      refine a_oneg (i := 12) rfl rfl rfl rfl (by kernel_rfl) (o_call rfl rfl rfl Try.call12 rfl (alive_c) ?_)
      rintro _ _ ⟨rfl, X6, rfl⟩
      refine a_keep (.dropS .all) ?_
      refine a_take (i := 13) rfl rfl rfl rfl (by kernel_rfl) (by kernel_rfl) (by kernel_rfl) (fun _ _ _ h => h) (.dropS .all) (r_pickt rfl rfl rfl) ?_
      refine a_take (i := 14) rfl rfl rfl rfl (by kernel_rfl) (by kernel_rfl) (by kernel_rfl) (fun _ _ _ h => h) (.dropS .all) (r_assign rfl rfl) ?_
      refine a_done (by kernel_rfl) ?_
      refine e_next ?_
      refine t_ret ?_
      exact e_ret rfl (.tmp rfl .nil) ⟨rfl, Pre.ex (.app (.app (.app (.app .refl))))⟩
    · skip
      exact (folds_no1 hr2 hx2 hm2 hr3).elim
  · skip
    refine l_op rfl (o_val rfl rfl (r_move rfl rfl) ?_)
    refine l_op rfl (o_val rfl rfl (r_extract (v := .pointer (some ⟨bn2, 0, none⟩)) rfl rfl rfl) ?_)
    refine l_op rfl (o_val rfl rfl (r_extract (v := .int .i64 ((n1 : Int))) rfl rfl rfl) ?_)
    refine l_op rfl (o_val rfl rfl (r_extract (v := .int .i64 (0)) rfl rfl rfl) ?_)
    refine l_op rfl (o_val rfl rfl (r_assign rfl rfl) ?_)
    refine l_op rfl (o_val rfl rfl (r_assign rfl rfl) ?_)
    refine l_op rfl (o_val rfl rfl (r_assign rfl rfl) ?_)
    refine l_nil ?_
    refine e_next ?_
    refine t_seq ?_
    refine t_region ?_
    refine l_op rfl (o_val rfl rfl (r_move rfl rfl) ?_)
    refine l_op rfl (o_call rfl rfl rfl Try.call9 rfl (rof_c (D := (X2 ++ (X1 ++ D))) (ds_app (fun p hp => (List.mem_append_left _ hp)) (ds_app (fun p hp => (List.mem_append_right _ (List.mem_cons_of_mem _ (List.mem_append_left _ hp)))) (fun p hp => (List.mem_append_right _ (List.mem_cons_of_mem _ (List.mem_append_right _ (hD _ hp))))))) (SliceAt.mono hrl1 (fun p hp => (List.mem_append_right _ hp))) (RecsAt.mono hra1 (fun p hp => (List.mem_append_right _ hp))) (by omega)) ?_)
    rintro _ _ (⟨k7, lm7, x7, X7, hr7, hx7, hm7, rfl, rfl⟩ | ⟨b7, X7, fa7, fn7, fc7, fl7, hr7, rfl, rfl, hfl7, hra7⟩)
    · skip
      exact (folds_no2 hr2 hr7 hx7 hm7).elim
    · skip
      obtain ⟨lr, hr2, hsim⟩ := sim_run Sim.nil hr2
      rw [hr7] at hr2
      injection hr2 with hr2
      subst hr2
      have hlen := runL_len (by simp) hr2
      simp only [LM_length, List.length_nil] at hlen
      have hll2 := hsim.perm.length_eq
      simp only [RL_length, LM_length] at hll2
      have hll3 := hfl7.len
      have hll4 := hrl1.len
      refine l_op rfl (o_val rfl rfl (r_move rfl rfl) ?_)
      refine l_op rfl (o_val rfl rfl (r_extract (v := .pointer (some ⟨b7, 0, none⟩)) rfl rfl rfl) ?_)
      refine l_op rfl (o_val rfl rfl (r_extract (v := .int .i64 ((n1 : Int))) rfl rfl rfl) ?_)
      refine l_op rfl (o_val rfl rfl (r_extract (v := .int .i64 (0)) rfl rfl rfl) ?_)
      refine l_op rfl (o_val rfl rfl (r_assign rfl rfl) ?_)
      refine l_op rfl (o_val rfl rfl (r_assign rfl rfl) ?_)
      refine l_op rfl (o_val rfl rfl (r_assign rfl rfl) ?_)
      refine l_nil ?_
      refine e_next ?_
      refine t_seq ?_
      refine t_seq ?_
      refine t_region ?_
      refine l_op rfl (o_val rfl rfl (r_move rfl rfl) ?_)
      refine l_op rfl (o_val rfl rfl (r_move rfl rfl) ?_)
      refine l_op rfl (o_val rfl rfl (Run.eq (v' := .bool false) (r_ne rfl rfl rfl) (by simp)) ?_)
      refine l_op rfl (o_val rfl rfl (r_move rfl rfl) ?_)
      refine l_yes rfl rfl rfl (o_val rfl rfl (r_move rfl rfl) ?_)
      refine l_yes rfl rfl rfl (o_val rfl rfl (r_move rfl rfl) ?_)
      refine l_yes rfl rfl rfl (o_val rfl rfl (Run.eq (v' := .bool false) (r_ne rfl rfl rfl) (by rfl)) ?_)
      refine l_op rfl (o_val rfl rfl (r_pickf rfl rfl rfl) ?_)
      refine l_op rfl (o_val rfl rfl (r_move rfl rfl) ?_)
      refine l_yes rfl rfl rfl (o_val rfl rfl (r_move rfl rfl) ?_)
      refine l_yes rfl rfl rfl (o_val rfl rfl (r_eqv rfl rfl rfl rfl rfl (q_ptr_nil Try.underlying24)) ?_)
      refine l_yes rfl rfl rfl (o_val rfl rfl (r_move rfl rfl) ?_)
      refine l_yes rfl rfl rfl (o_val rfl rfl (r_eqv rfl rfl rfl rfl rfl (q_ptr_nil Try.underlying28)) ?_)
      refine l_yes rfl rfl rfl (o_val rfl rfl (Run.eq (v' := .bool false) (r_bne rfl rfl rfl Try.underlying4) (by rfl)) ?_)
      refine l_op rfl (o_val rfl rfl (r_pickf rfl rfl rfl) ?_)
      refine l_nil ?_
      refine Then.slots (.cons (t := 2) rfl (.cons (t := 3) rfl (.cons (t := 6) rfl (.cons (t := 37) rfl .nil)))) ?_
      refine e_next ?_
      refine t_false rfl ?_
      refine t_skip ?_
      refine e_next ?_
      refine t_seq ?_
      refine t_draw (n := 15) .all rfl (by kernel_rfl) ?_
      refine a_take (i := 0) rfl rfl rfl rfl (by kernel_rfl) (by kernel_rfl) (by kernel_rfl) (fun _ _ _ h => h) .all (r_move rfl rfl) ?_
      refine a_take (i := 1) rfl rfl rfl rfl (by kernel_rfl) (by kernel_rfl) (by kernel_rfl) (fun _ _ _ h => h) .all (r_eqv rfl rfl rfl rfl rfl (q_ptr_nil Try.underlying28)) ?_
      refine a_take (i := 2) rfl rfl rfl rfl (by kernel_rfl) (by kernel_rfl) (by kernel_rfl) (fun _ _ _ h => h) .all (r_move rfl rfl) ?_
      refine a_takeg (i := 3) rfl rfl rfl rfl rfl rfl (by kernel_rfl) (by kernel_rfl) (by kernel_rfl) (fun _ _ _ h => h) .all (r_move rfl rfl) ?_
      refine a_takeg (i := 5) rfl rfl rfl rfl rfl rfl (by kernel_rfl) (by kernel_rfl) (by kernel_rfl) (fun _ _ _ h => h) .all (r_move rfl rfl) ?_
      refine a_takeg (i := 6) rfl rfl rfl rfl rfl rfl (by kernel_rfl) (by kernel_rfl) (by kernel_rfl) (fun _ _ _ h => h) .all (r_nilCheck rfl rfl) ?_
      refine a_takeg (i := 7) rfl rfl rfl rfl rfl rfl (by kernel_rfl) (by kernel_rfl) (by kernel_rfl) (fun _ _ _ h => h) .all (r_fieldAddr (k := 0) rfl rfl Try.underlying35 rfl Try.sizeOf32 rfl rfl) ?_
      refine a_takeg (i := 8) rfl rfl rfl rfl rfl rfl (by kernel_rfl) (by kernel_rfl) (by kernel_rfl) (fun _ _ _ h => h) .all (r_load (v := .slice fa7 fn7 fc7) rfl Try.isAgg32 rfl (List.mem_append_right _ List.mem_cons_self) rfl) ?_
      refine a_oneg (i := 4) rfl rfl rfl rfl (by kernel_rfl) (o_call rfl rfl rfl Try.call11 rfl (list_c (k := (⟨#[]⟩ : ByteArray)) (D := (X7 ++ (X2 ++ (X1 ++ D)))) (ds_app (fun p hp => (List.mem_append_left _ hp)) (ds_app (fun p hp => (List.mem_append_right _ (List.mem_cons_of_mem _ (List.mem_append_left _ hp)))) (ds_app (fun p hp => (List.mem_append_right _ (List.mem_cons_of_mem _ (List.mem_append_right _ (List.mem_cons_of_mem _ (List.mem_append_left _ hp)))))) (fun p hp => (List.mem_append_right _ (List.mem_cons_of_mem _ (List.mem_append_right _ (List.mem_cons_of_mem _ (List.mem_append_right _ (hD _ hp)))))))))) ((fun p hp => (List.mem_append_right _ hp)) _ hbn2) him2 (List.mem_append_right _ (List.mem_cons_of_mem _ (List.mem_append_right _ List.mem_cons_self))) (FilesAt.mono hfa2 (fun p hp => (List.mem_append_right _ hp))) (by omega)) ?_)
      rintro _ _ ⟨X8, a8, n8, c8, fl8, rfl, rfl, hfl8, hra8, hpm8, hst8⟩
      refine a_keep (.dropS .all) ?_
      have hRL := list_all hsim hpm8 hst8
      refine a_oneg (i := 9) rfl rfl rfl rfl (by kernel_rfl) (o_call rfl rfl rfl Try.call10 rfl (sameFiles_c (D := (X8 ++ (X7 ++ (X2 ++ (X1 ++ D))))) (ds_app (fun p hp => (List.mem_append_left _ hp)) (ds_app (fun p hp => (List.mem_append_right _ (List.mem_append_left _ hp))) (ds_app (fun p hp => (List.mem_append_right _ (List.mem_append_right _ (List.mem_cons_of_mem _ (List.mem_append_left _ hp))))) (ds_app (fun p hp => (List.mem_append_right _ (List.mem_append_right _ (List.mem_cons_of_mem _ (List.mem_append_right _ (List.mem_cons_of_mem _ (List.mem_append_left _ hp))))))) (fun p hp => (List.mem_append_right _ (List.mem_append_right _ (List.mem_cons_of_mem _ (List.mem_append_right _ (List.mem_cons_of_mem _ (List.mem_append_right _ (hD _ hp)))))))))))) hfl8 hra8 (SliceAt.mono hfl7 (fun p hp => (List.mem_append_right _ hp))) (RepAll.mono hra7 (fun p hp => (List.mem_append_right _ hp))) hRL (by have := hfl8.len; have hq := congrArg List.length hRL; simp only [RL_length] at hq; have := hfl7.len; omega)) ?_)
      rintro _ _ ⟨rfl, he⟩
      rw [he]
      clear he
      refine a_keep (.dropS .all) ?_
      refine a_take (i := 10) rfl rfl rfl rfl (by kernel_rfl) (by kernel_rfl) (by kernel_rfl) (fun _ _ _ h => h) (.dropS .all) (r_pickf rfl rfl rfl) ?_
      refine a_take (i := 11) rfl rfl rfl rfl (by kernel_rfl) (by kernel_rfl) (by kernel_rfl) (fun _ _ _ h => h) (.dropS .all) (r_move rfl rfl) ?_
      refine a_oneg (i := 12) rfl rfl rfl rfl (by kernel_rfl) (o_call rfl rfl rfl Try.call12 rfl (alive_c) ?_)
      rintro _ _ ⟨rfl, X9, rfl⟩
      refine a_keep (.dropS (.dropS .all)) ?_
      refine a_take (i := 13) rfl rfl rfl rfl (by kernel_rfl) (by kernel_rfl) (by kernel_rfl) (fun _ _ _ h => h) (.dropS (.dropS .all)) (r_pickt rfl rfl rfl) ?_
      refine a_take (i := 14) rfl rfl rfl rfl (by kernel_rfl) (by kernel_rfl) (by kernel_rfl) (fun _ _ _ h => h) (.dropS (.dropS .all)) (r_assign rfl rfl) ?_
      refine a_done (by kernel_rfl) ?_
      refine e_next ?_
      refine t_ret ?_
      exact e_ret rfl (.tmp rfl .nil) ⟨rfl, Pre.ex (.app (.app (.app (.cons (.app (.cons (.app .refl)))))))⟩

end Go.Sal.Nm
