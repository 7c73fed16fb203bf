/- Walks over the documents' answers for names. -/
import Derived.Test.YtbiailfegepeaaaSpec2
import Derived.Test.YtbiailfegepeaaaRange
import Derived.Test.YtbiailfegepeaaaCmp
import Derived.Test.YtbiailfegepeaaaEqual
import Derived.Test.YtbiailfegepeaaaN1
namespace Go.Sal.Nm
open Go Go.Sal Go.Proofs
set_option linter.unusedVariables false
set_option linter.unusedSimpArgs false
theorem mapM_two {α β : Type} {f : α → Option β} {a b : α} {u v : β} (h1 : f a = some u) (h2 : f b = some v) : [a, b].mapM f = some [u, v] := by
  rw [List.mapM_cons, List.mapM_cons, h1, h2]; rfl
set_option maxRecDepth 100000 in
theorem keyLits_piece (p : Piece) (hp : -9223372036854775808 ≤ p.n ∧ p.n ≤ 9223372036854775807) : Try.prog.keyLits 3 66 (encPiece p) = some (pieceLits p) := by
  have h1 := keyLits_dig (P := Try.prog) Try.underlying43 Try.underlying5 (by kernel_rfl) (by kernel_rfl) p.d 0
  have h2 := keyLits_i64 (P := Try.prog) Try.underlying3 hp 1
  have c66 : Try.prog.cellsOf 66 = 33 := by kernel_rfl
  have c43 : Try.prog.cellsOf 43 = 32 := by kernel_rfl
  have c3 : Try.prog.cellsOf 3 = 1 := by kernel_rfl
  unfold Program.keyLits
  rw [Try.underlying66]
  refine (if_pos ⟨by rw [c66]; rfl, by kernel_rfl⟩).trans ?_
  have e := mapM_two (f := fun f : Field => Try.prog.keyLits 2 f.type (((encPiece p).drop f.offset).take (Try.prog.cellsOf f.type))) (a := (fsOf Try.prog 66)[0]!) (b := (fsOf Try.prog 66)[1]!) (u := digLits p.d) (v := [.int .i64 p.n]) (by
    show Try.prog.keyLits 2 43 (((encPiece p).drop 0).take (Try.prog.cellsOf 43)) = _
    rw [c43]; exact h1) (by
    show Try.prog.keyLits 2 3 (((encPiece p).drop 32).take (Try.prog.cellsOf 3)) = _
    rw [c3]; exact h2)
  exact congrArg (Option.map List.flatten) e

set_option maxRecDepth 100000 in
theorem rpath_c {E : Env} {H : Heap} (s : ByteArray) :
    Fn Try.prog 54 [.string s] E H (fun v H2 => v = .bool (isPath s) ∧ H2 = H) := by
  refine Fn.of_body (N := 28) Try.func54 rfl rfl rfl ?_
  refine t_seq ?_
  refine t_region ?_
  refine l_op rfl (o_val rfl rfl (r_assign rfl rfl) ?_)
  refine l_nil ?_
  refine e_next ?_
  refine t_seq ?_
  refine t_cut (fun aa ww => Sl 28 [(0, .string s), (2, .bool (false)), (11, .bool ((decide ((s.size : Int) < 1) || decide ((s.size : Int) > 255))))] aa ∧ Holds E H ww) ?_ ?_
  · skip
    refine t_region ?_
    refine l_op rfl (o_val rfl rfl (r_move rfl rfl) ?_)
    refine l_op rfl (o_val rfl rfl (r_lenStr rfl rfl Try.underlying9) ?_)
    refine l_op rfl (o_val rfl rfl (r_lt rfl rfl rfl) ?_)
    refine l_op rfl (o_val rfl rfl (r_move rfl rfl) ?_)
    refine t_bool (decide ((s.size : Int) < 1)) (fun hb1 => ?_) (fun hb1 => ?_)
    · skip
      have phb1 := of_decide_eq_true hb1
      refine l_noh rfl rfl rfl hb1 rfl rfl ?_
      refine l_noh rfl rfl rfl hb1 rfl rfl ?_
      refine l_noh rfl rfl rfl hb1 rfl rfl ?_
      refine l_op rfl (o_val rfl rfl (r_pickth rfl rfl hb1 rfl) ?_)
      refine l_nil ?_
      intro aa ww hL hH
      exact ⟨hL.sub (.cons (t := 0) rfl (.cons (t := 2) rfl (.eq (t := 11) rfl (by first | (simp [hb1]; done) | (simp only [hb1, Bool.true_and, Bool.false_and, Bool.true_or, Bool.false_or, Bool.and_true, Bool.and_false]; done)) .nil))), hH.hs .all⟩
    · skip
      have phb1 := of_decide_eq_false hb1
      refine l_yesh rfl rfl rfl hb1 (o_val rfl rfl (r_move rfl rfl) ?_)
      refine l_yesh rfl rfl rfl hb1 (o_val rfl rfl (r_lenStr rfl rfl Try.underlying9) ?_)
      refine l_yesh rfl rfl rfl hb1 (o_val rfl rfl (r_gt rfl rfl rfl) ?_)
      refine l_op rfl (o_val rfl rfl (r_pickfh rfl rfl hb1 rfl) ?_)
      refine l_nil ?_
      intro aa ww hL hH
      exact ⟨hL.sub (.cons (t := 0) rfl (.cons (t := 2) rfl (.eq (t := 11) rfl (by first | (simp [hb1]; done) | (simp only [hb1, Bool.true_and, Bool.false_and, Bool.true_or, Bool.false_or, Bool.and_true, Bool.and_false]; done)) .nil))), hH.hs .all⟩
  rintro aa ww ⟨hL, hH⟩
  refine Then.run hL hH ?_
  clear hL hH aa ww
  refine t_cond rfl (fun c11 => ?_) (fun c11 => ?_)
  · skip
    try simp only [Bool.or_eq_true, Bool.and_eq_true, decide_eq_true_eq, Bool.not_eq_true', decide_eq_false_iff_not] at c11
    refine t_seq ?_
    refine t_region ?_
    refine l_op rfl (o_val rfl rfl (r_assign rfl rfl) ?_)
    refine l_nil ?_
    refine e_next ?_
    refine t_ret ?_
    refine e_pass_ret ?_
    exact e_ret rfl (.tmp rfl .nil) ⟨by rw [isPath_short c11]; rfl, rfl⟩
  · skip
    try simp only [Bool.or_eq_false_iff, Bool.and_eq_false_iff, decide_eq_false_iff_not, Bool.not_eq_false', decide_eq_true_eq] at c11
    refine t_skip ?_
    refine e_next ?_
    refine t_seq ?_
    refine t_seq ?_
    refine t_region ?_
    refine l_op rfl (o_val rfl rfl (r_assign rfl rfl) ?_)
    refine l_nil ?_
    refine e_next ?_
    refine t_block ?_
    refine t_loop (fun (mz : Nat) aa ww => ∃ (k : Int), mz = (s.size - k.toNat) ∧ (0 ≤ k) ∧ (k ≤ s.size) ∧ (∀ j : Nat, (j : Int) < k → ∀ u, s[j]? = some u → okByte u = true) ∧ Sl 28 [(0, .string s), (3, .int .i64 (k))] aa ∧ Holds E H ww) (s.size) ?_ ?_
    · intro aa ww hL hH
      exact ⟨0, rfl, by omega, by omega, by intro j hj; omega, hL.sub (.cons (t := 0) rfl (.cons (t := 3) rfl .nil)), hH.hs .all⟩
    · skip
      rintro mz aa ww ⟨k, hmz, h0, h1, hk, hL, hH⟩
      refine Then.run hL hH ?_
      clear hL hH aa ww
      refine t_seq ?_
      refine t_seq ?_
      refine t_region ?_
      refine l_op rfl (o_val rfl rfl (r_move rfl rfl) ?_)
      refine l_op rfl (o_val rfl rfl (r_move rfl rfl) ?_)
      refine l_op rfl (o_val rfl rfl (r_lenStr rfl rfl Try.underlying9) ?_)
      refine l_op rfl (o_val rfl rfl (r_lt rfl rfl rfl) ?_)
      refine l_nil ?_
      refine e_next ?_
      refine t_dec rfl (fun c15 => ?_) (fun c15 => ?_)
      · skip
        refine t_skip ?_
        refine e_next ?_
        refine t_seq ?_
        refine t_block ?_
        obtain ⟨u1, hu1⟩ : ∃ u, s[Int.toNat (k)]? = some u := baSome (by omega)
        refine t_cut (fun aa ww => Sl 28 [(0, .string s), (3, .int .i64 (k)), (27, .bool ((decide ((u1.toNat : Int) < 33) || decide ((u1.toNat : Int) > 126))))] aa ∧ Holds E H ww) ?_ ?_
        · skip
          refine t_region ?_
          refine l_op rfl (o_val rfl rfl (r_move rfl rfl) ?_)
          refine l_op rfl (o_val rfl rfl (r_move rfl rfl) ?_)
          refine l_op rfl (o_val rfl rfl (r_indexStr rfl rfl rfl Try.underlying9 (by omega) hu1) ?_)
          refine l_op rfl (o_val rfl rfl (r_lt rfl rfl rfl) ?_)
          refine l_op rfl (o_val rfl rfl (r_move rfl rfl) ?_)
          refine t_bool (decide ((u1.toNat : Int) < 33)) (fun hb2 => ?_) (fun hb2 => ?_)
          · skip
            have phb2 := of_decide_eq_true hb2
            refine l_noh rfl rfl rfl hb2 rfl rfl ?_
            refine l_noh rfl rfl rfl hb2 rfl rfl ?_
            refine l_noh rfl rfl rfl hb2 rfl rfl ?_
            refine l_noh rfl rfl rfl hb2 rfl rfl ?_
            refine l_op rfl (o_val rfl rfl (r_pickth rfl rfl hb2 rfl) ?_)
            refine l_nil ?_
            intro aa ww hL hH
            exact ⟨hL.sub (.cons (t := 0) rfl (.cons (t := 3) rfl (.eq (t := 27) rfl (by first | (simp [hb2]; done) | (simp only [hb2, Bool.true_and, Bool.false_and, Bool.true_or, Bool.false_or, Bool.and_true, Bool.and_false]; done)) .nil))), hH.hs .all⟩
          · skip
            have phb2 := of_decide_eq_false hb2
            refine l_yesh rfl rfl rfl hb2 (o_val rfl rfl (r_move rfl rfl) ?_)
            refine l_yesh rfl rfl rfl hb2 (o_val rfl rfl (r_move rfl rfl) ?_)
            refine l_yesh rfl rfl rfl hb2 (o_val rfl rfl (r_indexStr rfl rfl rfl Try.underlying9 (by omega) hu1) ?_)
            refine l_yesh rfl rfl rfl hb2 (o_val rfl rfl (r_gt rfl rfl rfl) ?_)
            refine l_op rfl (o_val rfl rfl (r_pickfh rfl rfl hb2 rfl) ?_)
            refine l_nil ?_
            intro aa ww hL hH
            exact ⟨hL.sub (.cons (t := 0) rfl (.cons (t := 3) rfl (.eq (t := 27) rfl (by first | (simp [hb2]; done) | (simp only [hb2, Bool.true_and, Bool.false_and, Bool.true_or, Bool.false_or, Bool.and_true, Bool.and_false]; done)) .nil))), hH.hs .all⟩
        rintro aa ww ⟨hL, hH⟩
        refine Then.run hL hH ?_
        clear hL hH aa ww
        refine t_cond rfl (fun c27 => ?_) (fun c27 => ?_)
        · skip
          try simp only [Bool.or_eq_true, Bool.and_eq_true, decide_eq_true_eq, Bool.not_eq_true', decide_eq_false_iff_not] at c27
          refine t_seq ?_
          refine t_region ?_
          refine l_op rfl (o_val rfl rfl (r_assign rfl rfl) ?_)
          refine l_nil ?_
          refine e_next ?_
          refine t_ret ?_
          refine e_block_ret ?_
          refine e_pass_ret ?_
          refine e_pass_ret ?_
          refine e_block_ret ?_
          refine e_pass_ret ?_
          exact e_ret rfl (.tmp rfl .nil) ⟨by rw [isPath_false hu1 c27]; rfl, rfl⟩
        · skip
          try simp only [Bool.or_eq_false_iff, Bool.and_eq_false_iff, decide_eq_false_iff_not, Bool.not_eq_false', decide_eq_true_eq] at c27
          refine t_skip ?_
          refine e_block _ ?_
          refine e_next ?_
          refine t_region ?_
          refine l_op rfl (o_val rfl rfl (r_move rfl rfl) ?_)
          refine l_op rfl (o_val rfl rfl (r_add rfl rfl rfl (by omega) (by omega)) ?_)
          refine l_op rfl (o_val rfl rfl (r_assign rfl rfl) ?_)
          refine l_nil ?_
          intro aa ww hL hH
          exact ⟨_, by omega, k + 1, rfl, by omega, by omega, stepOk hk hu1 c27, hL.sub (.cons (t := 0) rfl (.cons (t := 3) rfl .nil)), hH.hs .all⟩
      · skip
        refine t_exit ?_
        refine e_pass_exit ?_
        refine e_pass_exit ?_
        refine e_block_here ?_
        refine e_next ?_
        refine t_seq ?_
        refine t_region ?_
        refine l_op rfl (o_val rfl rfl (r_assign rfl rfl) ?_)
        refine l_nil ?_
        refine e_next ?_
        refine t_ret ?_
        exact e_ret rfl (.tmp rfl .nil) ⟨by rw [isPath_true (by omega) (by omega) (fun j hj => hk j (by omega))]; rfl, rfl⟩

set_option maxRecDepth 100000 in
theorem rsize_c {E : Env} {H D : Heap} (hD : ∀ p, p ∈ D → p ∈ H) {a : Option Addr} {n c : Nat} {ps : List Piece} (hs : SliceAt D encPiece 33 a n c ps) :
    Fn Try.prog 35 [.slice a n c] E H (fun v H2 => v = sizeV ps ∧ H2 = H) := by
  have hln := hs.len
  refine Fn.of_body (N := 39) Try.func35 rfl rfl rfl ?_
  refine t_seq ?_
  refine t_region ?_
  refine l_op rfl (o_val rfl rfl (r_assign rfl rfl) ?_)
  refine l_op rfl (o_val rfl rfl (r_assign rfl rfl) ?_)
  refine l_nil ?_
  refine e_next ?_
  refine t_seq ?_
  refine t_seq ?_
  refine t_region ?_
  refine l_op rfl (o_val rfl rfl (r_move rfl rfl) ?_)
  refine l_op rfl (o_val rfl rfl (r_len rfl rfl Try.underlying44) ?_)
  refine l_op rfl (o_val rfl rfl (r_gt rfl rfl rfl) ?_)
  refine l_nil ?_
  refine e_next ?_
  refine t_dec rfl (fun c8 => ?_) (fun c8 => ?_)
  · skip
    refine t_seq ?_
    refine t_region ?_
    refine l_op rfl (o_val rfl rfl (r_assign rfl rfl) ?_)
    refine l_op rfl (o_val rfl rfl (r_assign rfl rfl) ?_)
    refine l_nil ?_
    refine e_next ?_
    refine t_ret ?_
    refine e_pass_ret ?_
    exact e_ret rfl (.tmp rfl (.tmp rfl .nil)) ⟨(sizeV_long (by omega)).symm, rfl⟩
  · skip
    refine t_skip ?_
    refine e_next ?_
    refine t_seq ?_
    refine t_region ?_
    refine l_op rfl (o_val rfl rfl (r_assign rfl rfl) ?_)
    refine l_nil ?_
    refine e_next ?_
    refine t_seq ?_
    refine t_seq ?_
    refine t_region ?_
    refine l_op rfl (o_val rfl rfl (r_assign rfl rfl) ?_)
    refine l_nil ?_
    refine e_next ?_
    refine t_block ?_
    refine t_loop (fun (mz : Nat) aa ww => ∃ (k : Int), mz = (n - k.toNat) ∧ (0 ≤ k) ∧ (k ≤ n) ∧ (0 ≤ sumN (ps.take k.toNat) ∧ sumN (ps.take k.toNat) ≤ 4096 * k) ∧ (∀ j : Nat, (j : Int) < k → ∀ p, ps[j]? = some p → goodP p) ∧ Sl 39 [(0, .slice a n c), (4, .int .i64 ((sumN (ps.take k.toNat)))), (5, .int .i64 (k))] aa ∧ Holds E H ww) (n) ?_ ?_
    · intro aa ww hL hH
      exact ⟨0, rfl, by omega, by omega, (by simp [sumN]), (fun j hj => by omega), hL.sub (.cons (t := 0) rfl (.cons (t := 4) rfl (.cons (t := 5) rfl .nil))), hH.hs .all⟩
    · skip
      rintro mz aa ww ⟨k, hmz, h0, h1, hz0, hg, hL, hH⟩
      refine Then.run hL hH ?_
      clear hL hH aa ww
      refine t_seq ?_
      refine t_seq ?_
      refine t_region ?_
      refine l_op rfl (o_val rfl rfl (r_move rfl rfl) ?_)
      refine l_op rfl (o_val rfl rfl (r_move rfl rfl) ?_)
      refine l_op rfl (o_val rfl rfl (r_len rfl rfl Try.underlying44) ?_)
      refine l_op rfl (o_val rfl rfl (r_lt rfl rfl rfl) ?_)
      refine l_nil ?_
      refine e_next ?_
      refine t_dec rfl (fun c12 => ?_) (fun c12 => ?_)
      · skip
        refine t_skip ?_
        refine e_next ?_
        refine t_seq ?_
        refine t_block ?_
        refine t_seq ?_
        obtain ⟨b1, o1, cs1, T1, f1, ha1, hm1, hr1⟩ := SliceAt.opn hs (by omega)
        obtain ⟨p1, hx1⟩ : ∃ x, ps[Int.toNat (k)]? = some x := getSome (by have := hs.len; omega)
        refine t_cut (fun aa ww => Sl 39 [(0, .slice a n c), (4, .int .i64 ((sumN (ps.take k.toNat)))), (5, .int .i64 (k)), (28, .bool ((decide (p1.n < 1) || decide (p1.n > 4096))))] aa ∧ Holds E H ww) ?_ ?_
        · skip
          refine t_region ?_
          refine l_op rfl (o_val rfl rfl (r_move rfl rfl) ?_)
          refine l_op rfl (o_val rfl rfl (r_move rfl rfl) ?_)
          refine l_op rfl (o_val rfl rfl (r_indexAddr rfl rfl ha1 rfl Try.underlying44 Try.sizeOf66 (by omega) (by omega)) ?_)
          refine l_op rfl (o_val rfl rfl (r_fieldAddr (k := 32) rfl rfl Try.underlying66 rfl Try.sizeOf3 rfl rfl) ?_)
          refine l_op rfl (o_val rfl rfl (r_load (v := .int .i64 (p1.n)) rfl Try.isAgg3 rfl ((fun p hp => (hD _ hp)) _ hm1) (At.get (Row.elem hr1 hx1) (j := 32) rfl)) ?_)
          refine l_op rfl (o_val rfl rfl (r_lt rfl rfl rfl) ?_)
          refine l_op rfl (o_val rfl rfl (r_move rfl rfl) ?_)
          refine t_bool (decide (p1.n < 1)) (fun hb2 => ?_) (fun hb2 => ?_)
          · skip
            have phb2 := of_decide_eq_true hb2
            refine l_noh rfl rfl rfl hb2 rfl rfl ?_
            refine l_noh rfl rfl rfl hb2 rfl rfl ?_
            refine l_noh rfl rfl rfl hb2 rfl rfl ?_
            refine l_noh rfl rfl rfl hb2 rfl rfl ?_
            refine l_noh rfl rfl rfl hb2 rfl rfl ?_
            refine l_noh rfl rfl rfl hb2 rfl rfl ?_
            refine l_op rfl (o_val rfl rfl (r_pickth rfl rfl hb2 rfl) ?_)
            refine l_nil ?_
            intro aa ww hL hH
            exact ⟨hL.sub (.cons (t := 0) rfl (.cons (t := 4) rfl (.cons (t := 5) rfl (.eq (t := 28) rfl (by first | (simp [hb2]; done) | (simp only [hb2, Bool.true_and, Bool.false_and, Bool.true_or, Bool.false_or, Bool.and_true, Bool.and_false]; done)) .nil)))), hH.hs .all⟩
          · skip
            have phb2 := of_decide_eq_false hb2
            refine l_yesh rfl rfl rfl hb2 (o_val rfl rfl (r_move rfl rfl) ?_)
            refine l_yesh rfl rfl rfl hb2 (o_val rfl rfl (r_move rfl rfl) ?_)
            refine l_yesh rfl rfl rfl hb2 (o_val rfl rfl (r_indexAddr rfl rfl ha1 rfl Try.underlying44 Try.sizeOf66 (by omega) (by omega)) ?_)
            refine l_yesh rfl rfl rfl hb2 (o_val rfl rfl (r_fieldAddr (k := 32) rfl rfl Try.underlying66 rfl Try.sizeOf3 rfl rfl) ?_)
            refine l_yesh rfl rfl rfl hb2 (o_val rfl rfl (r_load (v := .int .i64 (p1.n)) rfl Try.isAgg3 rfl ((fun p hp => (hD _ hp)) _ hm1) (At.get (Row.elem hr1 hx1) (j := 32) rfl)) ?_)
            refine l_yesh rfl rfl rfl hb2 (o_val rfl rfl (r_gt rfl rfl rfl) ?_)
            refine l_op rfl (o_val rfl rfl (r_pickfh rfl rfl hb2 rfl) ?_)
            refine l_nil ?_
            intro aa ww hL hH
            exact ⟨hL.sub (.cons (t := 0) rfl (.cons (t := 4) rfl (.cons (t := 5) rfl (.eq (t := 28) rfl (by first | (simp [hb2]; done) | (simp only [hb2, Bool.true_and, Bool.false_and, Bool.true_or, Bool.false_or, Bool.and_true, Bool.and_false]; done)) .nil)))), hH.hs .all⟩
        rintro aa ww ⟨hL, hH⟩
        refine Then.run hL hH ?_
        clear hL hH aa ww
        refine t_cond rfl (fun c28 => ?_) (fun c28 => ?_)
        · skip
          try simp only [Bool.or_eq_true, Bool.and_eq_true, decide_eq_true_eq, Bool.not_eq_true', decide_eq_false_iff_not] at c28
          refine t_seq ?_
          refine t_region ?_
          refine l_op rfl (o_val rfl rfl (r_assign rfl rfl) ?_)
          refine l_op rfl (o_val rfl rfl (r_assign rfl rfl) ?_)
          refine l_nil ?_
          refine e_next ?_
          refine t_ret ?_
          refine e_pass_ret ?_
          refine e_block_ret ?_
          refine e_pass_ret ?_
          refine e_pass_ret ?_
          refine e_block_ret ?_
          refine e_pass_ret ?_
          exact e_ret rfl (.tmp rfl (.tmp rfl .nil)) ⟨(sizeV_badP hx1 c28).symm, rfl⟩
        · skip
          try simp only [Bool.or_eq_false_iff, Bool.and_eq_false_iff, decide_eq_false_iff_not, Bool.not_eq_false', decide_eq_true_eq] at c28
          refine t_skip ?_
          refine e_next ?_
          refine t_region ?_
          refine l_op rfl (o_val rfl rfl (r_move rfl rfl) ?_)
          refine l_op rfl (o_val rfl rfl (r_move rfl rfl) ?_)
          refine l_op rfl (o_val rfl rfl (r_move rfl rfl) ?_)
          refine l_op rfl (o_val rfl rfl (r_indexAddr rfl rfl ha1 rfl Try.underlying44 Try.sizeOf66 (by omega) (by omega)) ?_)
          refine l_op rfl (o_val rfl rfl (r_fieldAddr (k := 32) rfl rfl Try.underlying66 rfl Try.sizeOf3 rfl rfl) ?_)
          refine l_op rfl (o_val rfl rfl (r_load (v := .int .i64 (p1.n)) rfl Try.isAgg3 rfl ((fun p hp => (hD _ hp)) _ hm1) (At.get (Row.elem hr1 hx1) (j := 32) rfl)) ?_)
          refine l_op rfl (o_val rfl rfl (r_add rfl rfl rfl (by omega) (by omega)) ?_)
          refine l_op rfl (o_val rfl rfl (r_assign rfl rfl) ?_)
          refine l_nil ?_
          refine e_block _ ?_
          refine e_next ?_
          refine t_region ?_
          refine l_op rfl (o_val rfl rfl (r_move rfl rfl) ?_)
          refine l_op rfl (o_val rfl rfl (r_add rfl rfl rfl (by omega) (by omega)) ?_)
          refine l_op rfl (o_val rfl rfl (r_assign rfl rfl) ?_)
          refine l_nil ?_
          intro aa ww hL hH
          exact ⟨_, by omega, k + 1, rfl, by omega, by omega, (by rw [show (k + 1).toNat = k.toNat + 1 by omega, sumN_take hx1]; omega), (goodP_step hg h0 hx1 (by omega)), hL.sub (.cons (t := 0) rfl (.eq (t := 4) rfl (by rw [show (k + 1).toNat = k.toNat + 1 by omega, sumN_take hx1]) (.cons (t := 5) rfl .nil))), hH.hs .all⟩
      · skip
        refine t_exit ?_
        refine e_pass_exit ?_
        refine e_pass_exit ?_
        refine e_block_here ?_
        refine e_next ?_
        refine t_seq ?_
        refine t_seq ?_
        refine t_region ?_
        refine l_op rfl (o_val rfl rfl (r_move rfl rfl) ?_)
        refine l_op rfl (o_val rfl rfl (r_gt rfl rfl rfl) ?_)
        refine l_nil ?_
        refine e_next ?_
        refine t_dec rfl (fun c37 => ?_) (fun c37 => ?_)
        · skip
          refine t_seq ?_
          refine t_region ?_
          refine l_op rfl (o_val rfl rfl (r_assign rfl rfl) ?_)
          refine l_op rfl (o_val rfl rfl (r_assign rfl rfl) ?_)
          refine l_nil ?_
          refine e_next ?_
          refine t_ret ?_
          refine e_pass_ret ?_
          exact e_ret rfl (.tmp rfl (.tmp rfl .nil)) ⟨by rw [sizeV_sum (k := k.toNat) (by omega) (by omega) (fun j hj => hg j (by omega)), if_pos c37]; rfl, rfl⟩
        · skip
          refine t_skip ?_
          refine e_next ?_
          refine t_seq ?_
          refine t_region ?_
          refine l_op rfl (o_val rfl rfl (r_move rfl rfl) ?_)
          refine l_op rfl (o_val rfl rfl (r_assign rfl rfl) ?_)
          refine l_op rfl (o_val rfl rfl (r_assign rfl rfl) ?_)
          refine l_nil ?_
          refine e_next ?_
          refine t_ret ?_
          exact e_ret rfl (.tmp rfl (.tmp rfl .nil)) ⟨by rw [sizeV_sum (k := k.toNat) (by omega) (by omega) (fun j hj => hg j (by omega)), if_neg c37]; rfl, rfl⟩

set_option maxRecDepth 100000 in
theorem rcheck_c {E : Env} {H D : Heap} (hD : ∀ p, p ∈ D → p ∈ H) {r : Rec} {ps : List Piece} (hs : SliceAt D encPiece 33 r.pa r.pn r.pc ps) :
    Fn Try.prog 32 [.agg (encRec r).toArray] E H (fun v H2 => v = .int .i64 (recCheck r ps) ∧ ∃ X, H2 = X ++ H) := by
  have hln := hs.len
  refine Fn.of_body (N := 85) Try.func32 rfl rfl rfl ?_
  refine t_seq ?_
  refine t_region ?_
  refine l_op rfl (o_box rfl rfl rfl rfl rfl ?_)
  intro b1
  refine l_op rfl (o_val rfl rfl (r_assign rfl rfl) ?_)
  refine l_nil ?_
  refine e_next ?_
  refine t_seq ?_
  refine t_cut (fun aa ww => Sl 85 [(1, .pointer (some ⟨b1, 0, none⟩)), (2, .int .i64 (0)), (23, .bool ((((decide (r.seq < 1) || decide (r.seq > 1073741824)) || decide (r.epoch < 1)) || decide (r.epoch > 1073741824))))] aa ∧ Holds E ((b1, .cells (encRec r).toArray 46 (0, 0)) :: H) ww) ?_ ?_
  · skip
    refine t_region ?_
    refine l_op rfl (o_val rfl rfl (r_fieldAddr (k := 0) rfl rfl Try.underlying46 rfl Try.sizeOf3 rfl rfl) ?_)
    refine l_op rfl (o_val rfl rfl (r_load (v := .int .i64 (r.seq)) rfl Try.isAgg3 rfl List.mem_cons_self rfl) ?_)
    refine l_op rfl (o_val rfl rfl (r_lt rfl rfl rfl) ?_)
    refine l_op rfl (o_val rfl rfl (r_move rfl rfl) ?_)
    refine t_bool (decide (r.seq < 1)) (fun hb2 => ?_) (fun hb2 => ?_)
    · skip
      have phb2 := of_decide_eq_true hb2
      refine l_noh rfl rfl rfl hb2 rfl rfl ?_
      refine l_noh rfl rfl rfl hb2 rfl rfl ?_
      refine l_noh rfl rfl rfl hb2 rfl rfl ?_
      refine l_op rfl (o_val rfl rfl (r_pickth rfl rfl hb2 rfl) ?_)
      refine l_op rfl (o_val rfl rfl (r_move rfl rfl) ?_)
      refine l_no rfl rfl rfl rfl rfl rfl ?_
      refine l_no rfl rfl rfl rfl rfl rfl ?_
      refine l_no rfl rfl rfl rfl rfl rfl ?_
      refine l_op rfl (o_val rfl rfl (r_pickt rfl rfl rfl) ?_)
      refine l_op rfl (o_val rfl rfl (r_move rfl rfl) ?_)
      refine l_no rfl rfl rfl rfl rfl rfl ?_
      refine l_no rfl rfl rfl rfl rfl rfl ?_
      refine l_no rfl rfl rfl rfl rfl rfl ?_
      refine l_op rfl (o_val rfl rfl (r_pickt rfl rfl rfl) ?_)
      refine l_nil ?_
      intro aa ww hL hH
      exact ⟨hL.sub (.cons (t := 1) rfl (.cons (t := 2) rfl (.eq (t := 23) rfl (by first | (simp [hb2]; done) | (simp only [hb2, Bool.true_and, Bool.false_and, Bool.true_or, Bool.false_or, Bool.and_true, Bool.and_false]; done)) .nil))), hH.hs (.cell .head .all)⟩
    · skip
      have phb2 := of_decide_eq_false hb2
      refine l_yesh rfl rfl rfl hb2 (o_val rfl rfl (r_fieldAddr (k := 0) rfl rfl Try.underlying46 rfl Try.sizeOf3 rfl rfl) ?_)
      refine l_yesh rfl rfl rfl hb2 (o_val rfl rfl (r_load (v := .int .i64 (r.seq)) rfl Try.isAgg3 rfl List.mem_cons_self rfl) ?_)
      refine l_yesh rfl rfl rfl hb2 (o_val rfl rfl (r_gt rfl rfl rfl) ?_)
      refine l_op rfl (o_val rfl rfl (r_pickfh rfl rfl hb2 rfl) ?_)
      refine l_op rfl (o_val rfl rfl (r_move rfl rfl) ?_)
      refine t_bool (decide (r.seq > 1073741824)) (fun hb3 => ?_) (fun hb3 => ?_)
      · skip
        have phb3 := of_decide_eq_true hb3
        refine l_noh rfl rfl rfl hb3 rfl rfl ?_
        refine l_noh rfl rfl rfl hb3 rfl rfl ?_
        refine l_noh rfl rfl rfl hb3 rfl rfl ?_
        refine l_op rfl (o_val rfl rfl (r_pickth rfl rfl hb3 rfl) ?_)
        refine l_op rfl (o_val rfl rfl (r_move rfl rfl) ?_)
        refine l_no rfl rfl rfl rfl rfl rfl ?_
        refine l_no rfl rfl rfl rfl rfl rfl ?_
        refine l_no rfl rfl rfl rfl rfl rfl ?_
        refine l_op rfl (o_val rfl rfl (r_pickt rfl rfl rfl) ?_)
        refine l_nil ?_
        intro aa ww hL hH
        exact ⟨hL.sub (.cons (t := 1) rfl (.cons (t := 2) rfl (.eq (t := 23) rfl (by first | (simp [hb2, hb3]; done) | (simp only [hb2, hb3, Bool.true_and, Bool.false_and, Bool.true_or, Bool.false_or, Bool.and_true, Bool.and_false]; done)) .nil))), hH.hs (.cell .head .all)⟩
      · skip
        have phb3 := of_decide_eq_false hb3
        refine l_yesh rfl rfl rfl hb3 (o_val rfl rfl (r_fieldAddr (k := 1) rfl rfl Try.underlying46 rfl Try.sizeOf3 rfl rfl) ?_)
        refine l_yesh rfl rfl rfl hb3 (o_val rfl rfl (r_load (v := .int .i64 (r.epoch)) rfl Try.isAgg3 rfl List.mem_cons_self rfl) ?_)
        refine l_yesh rfl rfl rfl hb3 (o_val rfl rfl (r_lt rfl rfl rfl) ?_)
        refine l_op rfl (o_val rfl rfl (r_pickfh rfl rfl hb3 rfl) ?_)
        refine l_op rfl (o_val rfl rfl (r_move rfl rfl) ?_)
        refine t_bool (decide (r.epoch < 1)) (fun hb4 => ?_) (fun hb4 => ?_)
        · skip
          have phb4 := of_decide_eq_true hb4
          refine l_noh rfl rfl rfl hb4 rfl rfl ?_
          refine l_noh rfl rfl rfl hb4 rfl rfl ?_
          refine l_noh rfl rfl rfl hb4 rfl rfl ?_
          refine l_op rfl (o_val rfl rfl (r_pickth rfl rfl hb4 rfl) ?_)
          refine l_nil ?_
          intro aa ww hL hH
          exact ⟨hL.sub (.cons (t := 1) rfl (.cons (t := 2) rfl (.eq (t := 23) rfl (by first | (simp [hb2, hb3, hb4]; done) | (simp only [hb2, hb3, hb4, Bool.true_and, Bool.false_and, Bool.true_or, Bool.false_or, Bool.and_true, Bool.and_false]; done)) .nil))), hH.hs (.cell .head .all)⟩
        · skip
          have phb4 := of_decide_eq_false hb4
          refine l_yesh rfl rfl rfl hb4 (o_val rfl rfl (r_fieldAddr (k := 1) rfl rfl Try.underlying46 rfl Try.sizeOf3 rfl rfl) ?_)
          refine l_yesh rfl rfl rfl hb4 (o_val rfl rfl (r_load (v := .int .i64 (r.epoch)) rfl Try.isAgg3 rfl List.mem_cons_self rfl) ?_)
          refine l_yesh rfl rfl rfl hb4 (o_val rfl rfl (r_gt rfl rfl rfl) ?_)
          refine l_op rfl (o_val rfl rfl (r_pickfh rfl rfl hb4 rfl) ?_)
          refine l_nil ?_
          intro aa ww hL hH
          exact ⟨hL.sub (.cons (t := 1) rfl (.cons (t := 2) rfl (.eq (t := 23) rfl (by first | (simp [hb2, hb3, hb4]; done) | (simp only [hb2, hb3, hb4, Bool.true_and, Bool.false_and, Bool.true_or, Bool.false_or, Bool.and_true, Bool.and_false]; done)) .nil))), hH.hs (.cell .head .all)⟩
  rintro aa ww ⟨hL, hH⟩
  refine Then.run hL hH ?_
  clear hL hH aa ww
  refine t_cond rfl (fun c23 => ?_) (fun c23 => ?_)
  · skip
    try simp only [Bool.or_eq_true, Bool.and_eq_true, decide_eq_true_eq, Bool.not_eq_true', decide_eq_false_iff_not] at c23
    refine t_seq ?_
    refine t_region ?_
    refine l_op rfl (o_val rfl rfl (r_assign rfl rfl) ?_)
    refine l_nil ?_
    refine e_next ?_
    refine t_ret ?_
    refine e_pass_ret ?_
    exact e_ret rfl (.tmp rfl .nil) ⟨by first | (simp [recCheck, recOk, fits, retV, *]; done) | (simp [recCheck, recOk, fits, retV, *] <;> (intros; omega)), Pre.ex (.cons .refl)⟩
  · skip
    try simp only [Bool.or_eq_false_iff, Bool.and_eq_false_iff, decide_eq_false_iff_not, Bool.not_eq_false', decide_eq_true_eq] at c23
    refine t_skip ?_
    refine e_next ?_
    refine t_seq ?_
    refine t_region ?_
    refine l_op rfl (o_val rfl rfl (r_fieldAddr (k := 37) rfl rfl Try.underlying46 rfl Try.sizeOf44 rfl rfl) ?_)
    refine l_op rfl (o_val rfl rfl (r_load (v := .slice r.pa r.pn r.pc) rfl Try.isAgg44 rfl List.mem_cons_self rfl) ?_)
    refine l_op rfl (o_call rfl rfl rfl Try.call35 rfl (rsize_c (fun p hp => (List.mem_cons_of_mem _ (hD _ hp))) hs) ?_)
    rintro _ _ ⟨rfl, he⟩
    rw [he]
    clear he
    obtain ⟨z, e, hze, hz, _⟩ := sizeV_parts2 ps
    rw [hze]
    refine l_op rfl (o_val rfl rfl (r_move rfl rfl) ?_)
    refine l_op rfl (o_val rfl rfl (r_extract (v := .int .i64 (z)) rfl rfl rfl) ?_)
    refine l_op rfl (o_val rfl rfl (r_extract (v := .int .i64 (e)) rfl rfl rfl) ?_)
    refine l_op rfl (o_val rfl rfl (r_assign rfl rfl) ?_)
    refine l_op rfl (o_val rfl rfl (r_assign rfl rfl) ?_)
    refine l_nil ?_
    refine e_next ?_
    refine t_seq ?_
    refine t_region ?_
    refine l_op rfl (o_val rfl rfl (r_assign rfl rfl) ?_)
    refine l_nil ?_
    refine e_next ?_
    refine t_seq ?_
    refine t_seq ?_
    refine t_region ?_
    refine l_op rfl (o_val rfl rfl (r_fieldAddr (k := 34) rfl rfl Try.underlying46 rfl Try.sizeOf40 rfl rfl) ?_)
    refine l_op rfl (o_val rfl rfl (r_load (v := .int .i64 (r.kind)) rfl Try.isAgg40 rfl List.mem_cons_self rfl) ?_)
    refine l_nil ?_
    refine e_next ?_
    refine t_block ?_
    refine t_seq ?_
    refine t_region ?_
    refine l_op rfl (o_val rfl rfl (r_eq rfl rfl rfl) ?_)
    refine l_op rfl (o_val rfl rfl (r_assign rfl rfl) ?_)
    refine l_nil ?_
    refine e_next ?_
    refine t_dec rfl (fun c32 => ?_) (fun c32 => ?_)
    · skip
      refine t_region ?_
      refine l_op rfl (o_val rfl rfl (r_fieldAddr (k := 35) rfl rfl Try.underlying46 rfl Try.sizeOf3 rfl rfl) ?_)
      refine l_op rfl (o_val rfl rfl (r_load (v := .int .i64 (r.site)) rfl Try.isAgg3 rfl List.mem_cons_self rfl) ?_)
      refine l_op rfl (o_val rfl rfl (r_eq rfl rfl rfl) ?_)
      refine l_op rfl (o_val rfl rfl (r_move rfl rfl) ?_)
      refine t_bool (decide (r.site = 0)) (fun hb5 => ?_) (fun hb5 => ?_)
      · skip
        have phb5 := of_decide_eq_true hb5
        refine l_noh rfl rfl rfl hb5 rfl rfl ?_
        refine l_noh rfl rfl rfl hb5 rfl rfl ?_
        refine l_noh rfl rfl rfl hb5 rfl rfl ?_
        refine l_op rfl (o_val rfl rfl (r_pickth rfl rfl hb5 rfl) ?_)
        refine l_op rfl (o_val rfl rfl (r_move rfl rfl) ?_)
        refine l_yes rfl rfl rfl (o_val rfl rfl (r_fieldAddr (k := 36) rfl rfl Try.underlying46 rfl Try.sizeOf9 rfl rfl) ?_)
        refine l_yes rfl rfl rfl (o_val rfl rfl (r_load (v := .string r.path) rfl Try.isAgg9 rfl List.mem_cons_self rfl) ?_)
        refine l_yes rfl rfl rfl (o_val rfl rfl (r_seq rfl rfl rfl) ?_)
        refine l_op rfl (o_val rfl rfl (r_pickt rfl rfl rfl) ?_)
        refine l_op rfl (o_val rfl rfl (r_move rfl rfl) ?_)
        refine t_bool (decide (r.path = (⟨#[]⟩ : ByteArray))) (fun hb6 => ?_) (fun hb6 => ?_)
        · skip
          have phb6 := of_decide_eq_true hb6
          refine l_yesh rfl rfl rfl hb6 (o_val rfl rfl (r_fieldAddr (k := 37) rfl rfl Try.underlying46 rfl Try.sizeOf44 rfl rfl) ?_)
          refine l_yesh rfl rfl rfl hb6 (o_val rfl rfl (r_load (v := .slice r.pa r.pn r.pc) rfl Try.isAgg44 rfl List.mem_cons_self rfl) ?_)
          refine l_yesh rfl rfl rfl hb6 (o_val rfl rfl (r_len rfl rfl Try.underlying44) ?_)
          refine l_yesh rfl rfl rfl hb6 (o_val rfl rfl (r_eq rfl rfl rfl) ?_)
          refine l_op rfl (o_val rfl rfl (r_pickth rfl rfl hb6 rfl) ?_)
          refine l_op rfl (o_val rfl rfl (r_assign rfl rfl) ?_)
          refine l_nil ?_
          refine Then.slots (.cons (t := 2) rfl (.cons (t := 5) rfl .nil)) ?_
          refine e_block _ ?_
          refine e_next ?_
          refine t_seq ?_
          refine t_seq ?_
          refine t_region ?_
          refine l_op rfl (o_val rfl rfl (r_move rfl rfl) ?_)
          refine l_op rfl (o_val rfl rfl (r_notdec rfl rfl) ?_)
          refine l_nil ?_
          refine e_next ?_
          refine t_dec rfl (fun c84 => ?_) (fun c84 => ?_)
          · skip
            refine t_seq ?_
            refine t_region ?_
            refine l_op rfl (o_val rfl rfl (r_assign rfl rfl) ?_)
            refine l_nil ?_
            refine e_next ?_
            refine t_ret ?_
            refine e_pass_ret ?_
            exact e_ret rfl (.tmp rfl .nil) ⟨by first | (simp [recCheck, recOk, fits, retV, *]; done) | (simp [recCheck, recOk, fits, retV, *] <;> (intros; omega)), Pre.ex (.cons .refl)⟩
          · skip
            refine t_skip ?_
            refine e_next ?_
            refine t_seq ?_
            refine t_region ?_
            refine l_op rfl (o_val rfl rfl (r_assign rfl rfl) ?_)
            refine l_nil ?_
            refine e_next ?_
            refine t_ret ?_
            exact e_ret rfl (.tmp rfl .nil) ⟨by first | (simp [recCheck, recOk, fits, retV, *]; done) | (simp [recCheck, recOk, fits, retV, *] <;> (intros; omega)), Pre.ex (.cons .refl)⟩
        · skip
          have phb6 := of_decide_eq_false hb6
          refine l_noh rfl rfl rfl hb6 rfl rfl ?_
          refine l_noh rfl rfl rfl hb6 rfl rfl ?_
          refine l_noh rfl rfl rfl hb6 rfl rfl ?_
          refine l_noh rfl rfl rfl hb6 rfl rfl ?_
          refine l_op rfl (o_val rfl rfl (r_pickfh rfl rfl hb6 rfl) ?_)
          refine l_op rfl (o_val rfl rfl (r_assign rfl rfl) ?_)
          refine l_nil ?_
          refine Then.slots (.cons (t := 2) rfl (.cons (t := 5) rfl .nil)) ?_
          refine e_block _ ?_
          refine e_next ?_
          refine t_seq ?_
          refine t_seq ?_
          refine t_region ?_
          refine l_op rfl (o_val rfl rfl (r_move rfl rfl) ?_)
          refine l_op rfl (o_val rfl rfl (r_not rfl rfl) ?_)
          refine l_nil ?_
          refine e_next ?_
          refine t_true rfl ?_
          refine t_seq ?_
          refine t_region ?_
          refine l_op rfl (o_val rfl rfl (r_assign rfl rfl) ?_)
          refine l_nil ?_
          refine e_next ?_
          refine t_ret ?_
          refine e_pass_ret ?_
          exact e_ret rfl (.tmp rfl .nil) ⟨by first | (simp [recCheck, recOk, fits, retV, *]; done) | (simp [recCheck, recOk, fits, retV, *] <;> (intros; omega)), Pre.ex (.cons .refl)⟩
      · skip
        have phb5 := of_decide_eq_false hb5
        refine l_yesh rfl rfl rfl hb5 (o_val rfl rfl (r_fieldAddr (k := 35) rfl rfl Try.underlying46 rfl Try.sizeOf3 rfl rfl) ?_)
        refine l_yesh rfl rfl rfl hb5 (o_val rfl rfl (r_load (v := .int .i64 (r.site)) rfl Try.isAgg3 rfl List.mem_cons_self rfl) ?_)
        refine l_yesh rfl rfl rfl hb5 (o_val rfl rfl (r_eq rfl rfl rfl) ?_)
        refine l_op rfl (o_val rfl rfl (r_pickfh rfl rfl hb5 rfl) ?_)
        refine l_op rfl (o_val rfl rfl (r_move rfl rfl) ?_)
        refine t_bool (decide (r.site = 1)) (fun hb7 => ?_) (fun hb7 => ?_)
        · skip
          have phb7 := of_decide_eq_true hb7
          refine l_yesh rfl rfl rfl hb7 (o_val rfl rfl (r_fieldAddr (k := 36) rfl rfl Try.underlying46 rfl Try.sizeOf9 rfl rfl) ?_)
          refine l_yesh rfl rfl rfl hb7 (o_val rfl rfl (r_load (v := .string r.path) rfl Try.isAgg9 rfl List.mem_cons_self rfl) ?_)
          refine l_yesh rfl rfl rfl hb7 (o_val rfl rfl (r_seq rfl rfl rfl) ?_)
          refine l_op rfl (o_val rfl rfl (r_pickth rfl rfl hb7 rfl) ?_)
          refine l_op rfl (o_val rfl rfl (r_move rfl rfl) ?_)
          refine t_bool (decide (r.path = (⟨#[]⟩ : ByteArray))) (fun hb8 => ?_) (fun hb8 => ?_)
          · skip
            have phb8 := of_decide_eq_true hb8
            refine l_yesh rfl rfl rfl hb8 (o_val rfl rfl (r_fieldAddr (k := 37) rfl rfl Try.underlying46 rfl Try.sizeOf44 rfl rfl) ?_)
            refine l_yesh rfl rfl rfl hb8 (o_val rfl rfl (r_load (v := .slice r.pa r.pn r.pc) rfl Try.isAgg44 rfl List.mem_cons_self rfl) ?_)
            refine l_yesh rfl rfl rfl hb8 (o_val rfl rfl (r_len rfl rfl Try.underlying44) ?_)
            refine l_yesh rfl rfl rfl hb8 (o_val rfl rfl (r_eq rfl rfl rfl) ?_)
            refine l_op rfl (o_val rfl rfl (r_pickth rfl rfl hb8 rfl) ?_)
            refine l_op rfl (o_val rfl rfl (r_assign rfl rfl) ?_)
            refine l_nil ?_
            refine Then.slots (.cons (t := 2) rfl (.cons (t := 5) rfl .nil)) ?_
            refine e_block _ ?_
            refine e_next ?_
            refine t_seq ?_
            refine t_seq ?_
            refine t_region ?_
            refine l_op rfl (o_val rfl rfl (r_move rfl rfl) ?_)
            refine l_op rfl (o_val rfl rfl (r_notdec rfl rfl) ?_)
            refine l_nil ?_
            refine e_next ?_
            refine t_dec rfl (fun c84 => ?_) (fun c84 => ?_)
            · skip
              refine t_seq ?_
              refine t_region ?_
              refine l_op rfl (o_val rfl rfl (r_assign rfl rfl) ?_)
              refine l_nil ?_
              refine e_next ?_
              refine t_ret ?_
              refine e_pass_ret ?_
              exact e_ret rfl (.tmp rfl .nil) ⟨by first | (simp [recCheck, recOk, fits, retV, *]; done) | (simp [recCheck, recOk, fits, retV, *] <;> (intros; omega)), Pre.ex (.cons .refl)⟩
            · skip
              refine t_skip ?_
              refine e_next ?_
              refine t_seq ?_
              refine t_region ?_
              refine l_op rfl (o_val rfl rfl (r_assign rfl rfl) ?_)
              refine l_nil ?_
              refine e_next ?_
              refine t_ret ?_
              exact e_ret rfl (.tmp rfl .nil) ⟨by first | (simp [recCheck, recOk, fits, retV, *]; done) | (simp [recCheck, recOk, fits, retV, *] <;> (intros; omega)), Pre.ex (.cons .refl)⟩
          · skip
            have phb8 := of_decide_eq_false hb8
            refine l_noh rfl rfl rfl hb8 rfl rfl ?_
            refine l_noh rfl rfl rfl hb8 rfl rfl ?_
            refine l_noh rfl rfl rfl hb8 rfl rfl ?_
            refine l_noh rfl rfl rfl hb8 rfl rfl ?_
            refine l_op rfl (o_val rfl rfl (r_pickfh rfl rfl hb8 rfl) ?_)
            refine l_op rfl (o_val rfl rfl (r_assign rfl rfl) ?_)
            refine l_nil ?_
            refine Then.slots (.cons (t := 2) rfl (.cons (t := 5) rfl .nil)) ?_
            refine e_block _ ?_
            refine e_next ?_
            refine t_seq ?_
            refine t_seq ?_
            refine t_region ?_
            refine l_op rfl (o_val rfl rfl (r_move rfl rfl) ?_)
            refine l_op rfl (o_val rfl rfl (r_not rfl rfl) ?_)
            refine l_nil ?_
            refine e_next ?_
            refine t_true rfl ?_
            refine t_seq ?_
            refine t_region ?_
            refine l_op rfl (o_val rfl rfl (r_assign rfl rfl) ?_)
            refine l_nil ?_
            refine e_next ?_
            refine t_ret ?_
            refine e_pass_ret ?_
            exact e_ret rfl (.tmp rfl .nil) ⟨by first | (simp [recCheck, recOk, fits, retV, *]; done) | (simp [recCheck, recOk, fits, retV, *] <;> (intros; omega)), Pre.ex (.cons .refl)⟩
        · skip
          have phb7 := of_decide_eq_false hb7
          refine l_noh rfl rfl rfl hb7 rfl rfl ?_
          refine l_noh rfl rfl rfl hb7 rfl rfl ?_
          refine l_noh rfl rfl rfl hb7 rfl rfl ?_
          refine l_op rfl (o_val rfl rfl (r_pickfh rfl rfl hb7 rfl) ?_)
          refine l_op rfl (o_val rfl rfl (r_move rfl rfl) ?_)
          refine l_no rfl rfl rfl rfl rfl rfl ?_
          refine l_no rfl rfl rfl rfl rfl rfl ?_
          refine l_no rfl rfl rfl rfl rfl rfl ?_
          refine l_no rfl rfl rfl rfl rfl rfl ?_
          refine l_op rfl (o_val rfl rfl (r_pickf rfl rfl rfl) ?_)
          refine l_op rfl (o_val rfl rfl (r_assign rfl rfl) ?_)
          refine l_nil ?_
          refine Then.slots (.cons (t := 2) rfl (.cons (t := 5) rfl .nil)) ?_
          refine e_block _ ?_
          refine e_next ?_
          refine t_seq ?_
          refine t_seq ?_
          refine t_region ?_
          refine l_op rfl (o_val rfl rfl (r_move rfl rfl) ?_)
          refine l_op rfl (o_val rfl rfl (r_not rfl rfl) ?_)
          refine l_nil ?_
          refine e_next ?_
          refine t_true rfl ?_
          refine t_seq ?_
          refine t_region ?_
          refine l_op rfl (o_val rfl rfl (r_assign rfl rfl) ?_)
          refine l_nil ?_
          refine e_next ?_
          refine t_ret ?_
          refine e_pass_ret ?_
          exact e_ret rfl (.tmp rfl .nil) ⟨by first | (simp [recCheck, recOk, fits, retV, *]; done) | (simp [recCheck, recOk, fits, retV, *] <;> (intros; omega)), Pre.ex (.cons .refl)⟩
    · skip
      refine t_seq ?_
      refine t_region ?_
      refine l_op rfl (o_val rfl rfl (r_eq rfl rfl rfl) ?_)
      refine l_op rfl (o_val rfl rfl (r_assign rfl rfl) ?_)
      refine l_nil ?_
      refine e_next ?_
      refine t_dec rfl (fun c53 => ?_) (fun c53 => ?_)
      · skip
        refine t_region ?_
        refine l_op rfl (o_val rfl rfl (r_fieldAddr (k := 35) rfl rfl Try.underlying46 rfl Try.sizeOf3 rfl rfl) ?_)
        refine l_op rfl (o_val rfl rfl (r_load (v := .int .i64 (r.site)) rfl Try.isAgg3 rfl List.mem_cons_self rfl) ?_)
        refine l_op rfl (o_val rfl rfl (r_eq rfl rfl rfl) ?_)
        refine l_op rfl (o_val rfl rfl (r_move rfl rfl) ?_)
        refine t_bool (decide (r.site = 0)) (fun hb9 => ?_) (fun hb9 => ?_)
        · skip
          have phb9 := of_decide_eq_true hb9
          refine l_yesh rfl rfl rfl hb9 (o_val rfl rfl (r_fieldAddr (k := 36) rfl rfl Try.underlying46 rfl Try.sizeOf9 rfl rfl) ?_)
          refine l_yesh rfl rfl rfl hb9 (o_val rfl rfl (r_load (v := .string r.path) rfl Try.isAgg9 rfl List.mem_cons_self rfl) ?_)
          refine l_yesh rfl rfl rfl hb9 (o_call rfl rfl rfl Try.call54 rfl (rpath_c r.path) ?_)
          rintro _ _ ⟨rfl, he⟩
          rw [he]
          clear he
          refine l_op rfl (o_val rfl rfl (r_pickth rfl rfl hb9 rfl) ?_)
          refine l_op rfl (o_val rfl rfl (r_move rfl rfl) ?_)
          refine t_bool (isPath r.path) (fun hb10 => ?_) (fun hb10 => ?_)
          · skip
            refine l_yesh rfl rfl rfl hb10 (o_val rfl rfl (r_move rfl rfl) ?_)
            refine l_yesh rfl rfl rfl hb10 (o_val rfl rfl (r_eq rfl rfl rfl) ?_)
            refine l_op rfl (o_val rfl rfl (r_pickth rfl rfl hb10 rfl) ?_)
            refine l_op rfl (o_val rfl rfl (r_assign rfl rfl) ?_)
            refine l_nil ?_
            refine Then.slots (.cons (t := 2) rfl (.cons (t := 5) rfl .nil)) ?_
            refine e_block _ ?_
            refine e_next ?_
            refine t_seq ?_
            refine t_seq ?_
            refine t_region ?_
            refine l_op rfl (o_val rfl rfl (r_move rfl rfl) ?_)
            refine l_op rfl (o_val rfl rfl (r_notdec rfl rfl) ?_)
            refine l_nil ?_
            refine e_next ?_
            refine t_dec rfl (fun c84 => ?_) (fun c84 => ?_)
            · skip
              refine t_seq ?_
              refine t_region ?_
              refine l_op rfl (o_val rfl rfl (r_assign rfl rfl) ?_)
              refine l_nil ?_
              refine e_next ?_
              refine t_ret ?_
              refine e_pass_ret ?_
              exact e_ret rfl (.tmp rfl .nil) ⟨by first | (simp [recCheck, recOk, fits, retV, *]; done) | (simp [recCheck, recOk, fits, retV, *] <;> (intros; omega)), Pre.ex (.cons .refl)⟩
            · skip
              refine t_skip ?_
              refine e_next ?_
              refine t_seq ?_
              refine t_region ?_
              refine l_op rfl (o_val rfl rfl (r_assign rfl rfl) ?_)
              refine l_nil ?_
              refine e_next ?_
              refine t_ret ?_
              exact e_ret rfl (.tmp rfl .nil) ⟨by first | (simp [recCheck, recOk, fits, retV, *]; done) | (simp [recCheck, recOk, fits, retV, *] <;> (intros; omega)), Pre.ex (.cons .refl)⟩
          · skip
            refine l_noh rfl rfl rfl hb10 rfl rfl ?_
            refine l_noh rfl rfl rfl hb10 rfl rfl ?_
            refine l_op rfl (o_val rfl rfl (r_pickfh rfl rfl hb10 rfl) ?_)
            refine l_op rfl (o_val rfl rfl (r_assign rfl rfl) ?_)
            refine l_nil ?_
            refine Then.slots (.cons (t := 2) rfl (.cons (t := 5) rfl .nil)) ?_
            refine e_block _ ?_
            refine e_next ?_
            refine t_seq ?_
            refine t_seq ?_
            refine t_region ?_
            refine l_op rfl (o_val rfl rfl (r_move rfl rfl) ?_)
            refine l_op rfl (o_val rfl rfl (r_not rfl rfl) ?_)
            refine l_nil ?_
            refine e_next ?_
            refine t_true rfl ?_
            refine t_seq ?_
            refine t_region ?_
            refine l_op rfl (o_val rfl rfl (r_assign rfl rfl) ?_)
            refine l_nil ?_
            refine e_next ?_
            refine t_ret ?_
            refine e_pass_ret ?_
            exact e_ret rfl (.tmp rfl .nil) ⟨by first | (simp [recCheck, recOk, fits, retV, *]; done) | (simp [recCheck, recOk, fits, retV, *] <;> (intros; omega)), Pre.ex (.cons .refl)⟩
        · skip
          have phb9 := of_decide_eq_false hb9
          refine l_noh rfl rfl rfl hb9 rfl rfl ?_
          refine l_noh rfl rfl rfl hb9 rfl rfl ?_
          refine l_noh rfl rfl rfl hb9 rfl rfl ?_
          refine l_op rfl (o_val rfl rfl (r_pickfh rfl rfl hb9 rfl) ?_)
          refine l_op rfl (o_val rfl rfl (r_move rfl rfl) ?_)
          refine l_no rfl rfl rfl rfl rfl rfl ?_
          refine l_no rfl rfl rfl rfl rfl rfl ?_
          refine l_op rfl (o_val rfl rfl (r_pickf rfl rfl rfl) ?_)
          refine l_op rfl (o_val rfl rfl (r_assign rfl rfl) ?_)
          refine l_nil ?_
          refine Then.slots (.cons (t := 2) rfl (.cons (t := 5) rfl .nil)) ?_
          refine e_block _ ?_
          refine e_next ?_
          refine t_seq ?_
          refine t_seq ?_
          refine t_region ?_
          refine l_op rfl (o_val rfl rfl (r_move rfl rfl) ?_)
          refine l_op rfl (o_val rfl rfl (r_not rfl rfl) ?_)
          refine l_nil ?_
          refine e_next ?_
          refine t_true rfl ?_
          refine t_seq ?_
          refine t_region ?_
          refine l_op rfl (o_val rfl rfl (r_assign rfl rfl) ?_)
          refine l_nil ?_
          refine e_next ?_
          refine t_ret ?_
          refine e_pass_ret ?_
          exact e_ret rfl (.tmp rfl .nil) ⟨by first | (simp [recCheck, recOk, fits, retV, *]; done) | (simp [recCheck, recOk, fits, retV, *] <;> (intros; omega)), Pre.ex (.cons .refl)⟩
      · skip
        refine t_seq ?_
        refine t_region ?_
        refine l_op rfl (o_val rfl rfl (r_eq rfl rfl rfl) ?_)
        refine l_op rfl (o_val rfl rfl (r_assign rfl rfl) ?_)
        refine l_nil ?_
        refine e_next ?_
        refine t_dec rfl (fun c67 => ?_) (fun c67 => ?_)
        · skip
          refine t_region ?_
          refine l_op rfl (o_val rfl rfl (r_fieldAddr (k := 35) rfl rfl Try.underlying46 rfl Try.sizeOf3 rfl rfl) ?_)
          refine l_op rfl (o_val rfl rfl (r_load (v := .int .i64 (r.site)) rfl Try.isAgg3 rfl List.mem_cons_self rfl) ?_)
          refine l_op rfl (o_val rfl rfl (r_eq rfl rfl rfl) ?_)
          refine l_op rfl (o_val rfl rfl (r_move rfl rfl) ?_)
          refine t_bool (decide (r.site = 0)) (fun hb11 => ?_) (fun hb11 => ?_)
          · skip
            have phb11 := of_decide_eq_true hb11
            refine l_yesh rfl rfl rfl hb11 (o_val rfl rfl (r_fieldAddr (k := 36) rfl rfl Try.underlying46 rfl Try.sizeOf9 rfl rfl) ?_)
            refine l_yesh rfl rfl rfl hb11 (o_val rfl rfl (r_load (v := .string r.path) rfl Try.isAgg9 rfl List.mem_cons_self rfl) ?_)
            refine l_yesh rfl rfl rfl hb11 (o_call rfl rfl rfl Try.call54 rfl (rpath_c r.path) ?_)
            rintro _ _ ⟨rfl, he⟩
            rw [he]
            clear he
            refine l_op rfl (o_val rfl rfl (r_pickth rfl rfl hb11 rfl) ?_)
            refine l_op rfl (o_val rfl rfl (r_move rfl rfl) ?_)
            refine t_bool (isPath r.path) (fun hb12 => ?_) (fun hb12 => ?_)
            · skip
              refine l_yesh rfl rfl rfl hb12 (o_val rfl rfl (r_fieldAddr (k := 37) rfl rfl Try.underlying46 rfl Try.sizeOf44 rfl rfl) ?_)
              refine l_yesh rfl rfl rfl hb12 (o_val rfl rfl (r_load (v := .slice r.pa r.pn r.pc) rfl Try.isAgg44 rfl List.mem_cons_self rfl) ?_)
              refine l_yesh rfl rfl rfl hb12 (o_val rfl rfl (r_len rfl rfl Try.underlying44) ?_)
              refine l_yesh rfl rfl rfl hb12 (o_val rfl rfl (r_eq rfl rfl rfl) ?_)
              refine l_op rfl (o_val rfl rfl (r_pickth rfl rfl hb12 rfl) ?_)
              refine l_op rfl (o_val rfl rfl (r_assign rfl rfl) ?_)
              refine l_nil ?_
              refine Then.slots (.cons (t := 2) rfl (.cons (t := 5) rfl .nil)) ?_
              refine e_block _ ?_
              refine e_next ?_
              refine t_seq ?_
              refine t_seq ?_
              refine t_region ?_
              refine l_op rfl (o_val rfl rfl (r_move rfl rfl) ?_)
              refine l_op rfl (o_val rfl rfl (r_notdec rfl rfl) ?_)
              refine l_nil ?_
              refine e_next ?_
              refine t_dec rfl (fun c84 => ?_) (fun c84 => ?_)
              · skip
                refine t_seq ?_
                refine t_region ?_
                refine l_op rfl (o_val rfl rfl (r_assign rfl rfl) ?_)
                refine l_nil ?_
                refine e_next ?_
                refine t_ret ?_
                refine e_pass_ret ?_
                exact e_ret rfl (.tmp rfl .nil) ⟨by first | (simp [recCheck, recOk, fits, retV, *]; done) | (simp [recCheck, recOk, fits, retV, *] <;> (intros; omega)), Pre.ex (.cons .refl)⟩
              · skip
                refine t_skip ?_
                refine e_next ?_
                refine t_seq ?_
                refine t_region ?_
                refine l_op rfl (o_val rfl rfl (r_assign rfl rfl) ?_)
                refine l_nil ?_
                refine e_next ?_
                refine t_ret ?_
                exact e_ret rfl (.tmp rfl .nil) ⟨by first | (simp [recCheck, recOk, fits, retV, *]; done) | (simp [recCheck, recOk, fits, retV, *] <;> (intros; omega)), Pre.ex (.cons .refl)⟩
            · skip
              refine l_noh rfl rfl rfl hb12 rfl rfl ?_
              refine l_noh rfl rfl rfl hb12 rfl rfl ?_
              refine l_noh rfl rfl rfl hb12 rfl rfl ?_
              refine l_noh rfl rfl rfl hb12 rfl rfl ?_
              refine l_op rfl (o_val rfl rfl (r_pickfh rfl rfl hb12 rfl) ?_)
              refine l_op rfl (o_val rfl rfl (r_assign rfl rfl) ?_)
              refine l_nil ?_
              refine Then.slots (.cons (t := 2) rfl (.cons (t := 5) rfl .nil)) ?_
              refine e_block _ ?_
              refine e_next ?_
              refine t_seq ?_
              refine t_seq ?_
              refine t_region ?_
              refine l_op rfl (o_val rfl rfl (r_move rfl rfl) ?_)
              refine l_op rfl (o_val rfl rfl (r_not rfl rfl) ?_)
              refine l_nil ?_
              refine e_next ?_
              refine t_true rfl ?_
              refine t_seq ?_
              refine t_region ?_
              refine l_op rfl (o_val rfl rfl (r_assign rfl rfl) ?_)
              refine l_nil ?_
              refine e_next ?_
              refine t_ret ?_
              refine e_pass_ret ?_
              exact e_ret rfl (.tmp rfl .nil) ⟨by first | (simp [recCheck, recOk, fits, retV, *]; done) | (simp [recCheck, recOk, fits, retV, *] <;> (intros; omega)), Pre.ex (.cons .refl)⟩
          · skip
            have phb11 := of_decide_eq_false hb11
            refine l_noh rfl rfl rfl hb11 rfl rfl ?_
            refine l_noh rfl rfl rfl hb11 rfl rfl ?_
            refine l_noh rfl rfl rfl hb11 rfl rfl ?_
            refine l_op rfl (o_val rfl rfl (r_pickfh rfl rfl hb11 rfl) ?_)
            refine l_op rfl (o_val rfl rfl (r_move rfl rfl) ?_)
            refine l_no rfl rfl rfl rfl rfl rfl ?_
            refine l_no rfl rfl rfl rfl rfl rfl ?_
            refine l_no rfl rfl rfl rfl rfl rfl ?_
            refine l_no rfl rfl rfl rfl rfl rfl ?_
            refine l_op rfl (o_val rfl rfl (r_pickf rfl rfl rfl) ?_)
            refine l_op rfl (o_val rfl rfl (r_assign rfl rfl) ?_)
            refine l_nil ?_
            refine Then.slots (.cons (t := 2) rfl (.cons (t := 5) rfl .nil)) ?_
            refine e_block _ ?_
            refine e_next ?_
            refine t_seq ?_
            refine t_seq ?_
            refine t_region ?_
            refine l_op rfl (o_val rfl rfl (r_move rfl rfl) ?_)
            refine l_op rfl (o_val rfl rfl (r_not rfl rfl) ?_)
            refine l_nil ?_
            refine e_next ?_
            refine t_true rfl ?_
            refine t_seq ?_
            refine t_region ?_
            refine l_op rfl (o_val rfl rfl (r_assign rfl rfl) ?_)
            refine l_nil ?_
            refine e_next ?_
            refine t_ret ?_
            refine e_pass_ret ?_
            exact e_ret rfl (.tmp rfl .nil) ⟨by first | (simp [recCheck, recOk, fits, retV, *]; done) | (simp [recCheck, recOk, fits, retV, *] <;> (intros; omega)), Pre.ex (.cons .refl)⟩
        · skip
          refine t_region ?_
          refine l_op rfl (o_val rfl rfl (r_assign rfl rfl) ?_)
          refine l_nil ?_
          refine e_block _ ?_
          refine e_next ?_
          refine t_seq ?_
          refine t_seq ?_
          refine t_region ?_
          refine l_op rfl (o_val rfl rfl (r_move rfl rfl) ?_)
          refine l_op rfl (o_val rfl rfl (r_not rfl rfl) ?_)
          refine l_nil ?_
          refine e_next ?_
          refine t_true rfl ?_
          refine t_seq ?_
          refine t_region ?_
          refine l_op rfl (o_val rfl rfl (r_assign rfl rfl) ?_)
          refine l_nil ?_
          refine Then.slots (.cons (t := 2) rfl .nil) ?_
          refine e_next ?_
          refine t_ret ?_
          refine e_pass_ret ?_
          exact e_ret rfl (.tmp rfl .nil) ⟨by first | (simp [recCheck, recOk, fits, retV, *]; done) | (simp [recCheck, recOk, fits, retV, *] <;> (intros; omega)), Pre.ex (.cons .refl)⟩

set_option maxRecDepth 100000 in
theorem rfind_c {E : Env} {H D : Heap} (hD : ∀ p, p ∈ D → p ∈ H) {b : Nat} {a : Option Addr} {n c : Nat} {fl : List (File × FileL)} (hfl : SliceAt D encFL 4 a n c fl) (hra : RepAll D fl) (hn : n ≤ 4096) (hb : (b, .cells ([.slice a n c] : List Value).toArray 35 (0, 0)) ∈ H) {k : ByteArray} :
    Fn Try.prog 33 [.pointer (some ⟨b, 0, none⟩), .string k] E H (fun v H2 => ∃ i : Int, v = .int .i64 i ∧ H2 = H ∧ (mget (RL fl) k).isSome = decide (0 ≤ i) ∧ (0 ≤ i → ∃ x, fl[i.toNat]? = some x ∧ mget (RL fl) k = some x.2)) := by
  have hln := hfl.len
  refine Fn.of_body (N := 26) Try.func33 rfl rfl rfl ?_
  refine t_seq ?_
  refine t_region ?_
  refine l_op rfl (o_val rfl rfl (r_assign rfl rfl) ?_)
  refine l_nil ?_
  refine e_next ?_
  refine t_seq ?_
  refine t_seq ?_
  refine t_region ?_
  refine l_op rfl (o_val rfl rfl (r_assign rfl rfl) ?_)
  refine l_nil ?_
  refine e_next ?_
  refine t_block ?_
  refine t_loop (fun (mz : Nat) aa ww => ∃ (i : Int), mz = (n - i.toNat) ∧ (0 ≤ i) ∧ (i ≤ n) ∧ (∀ j : Nat, (j : Int) < i → ∀ x, fl[j]? = some x → x.1.path ≠ k) ∧ Sl 26 [(0, .pointer (some ⟨b, 0, none⟩)), (1, .string k), (5, .int .i64 (i))] aa ∧ Holds E H ww) (n) ?_ ?_
  · intro aa ww hL hH
    exact ⟨0, rfl, by omega, by omega, (fun j hj => by omega), hL.sub (.cons (t := 0) rfl (.cons (t := 1) rfl (.cons (t := 5) rfl .nil))), hH.hs .all⟩
  · skip
    rintro mz aa ww ⟨i, hmz, h0, h1, hno, hL, hH⟩
    refine Then.run hL hH ?_
    clear hL hH aa ww
    refine t_seq ?_
    refine t_seq ?_
    refine t_region ?_
    refine l_op rfl (o_val rfl rfl (r_move rfl rfl) ?_)
    refine l_op rfl (o_val rfl rfl (r_move rfl rfl) ?_)
    refine l_op rfl (o_val rfl rfl (r_nilCheck rfl rfl) ?_)
    refine l_op rfl (o_val rfl rfl (r_fieldAddr (k := 0) rfl rfl Try.underlying35 rfl Try.sizeOf32 rfl rfl) ?_)
    refine l_op rfl (o_val rfl rfl (r_load (v := .slice a n c) rfl Try.isAgg32 rfl hb rfl) ?_)
    refine l_op rfl (o_val rfl rfl (r_len rfl rfl Try.underlying32) ?_)
    refine l_op rfl (o_val rfl rfl (r_lt rfl rfl rfl) ?_)
    refine l_nil ?_
    refine e_next ?_
    refine t_dec rfl (fun c12 => ?_) (fun c12 => ?_)
    · skip
      refine t_skip ?_
      refine e_next ?_
      refine t_seq ?_
      refine t_block ?_
      refine t_seq ?_
      refine t_region ?_
      refine l_op rfl (o_val rfl rfl (r_move rfl rfl) ?_)
      refine l_op rfl (o_val rfl rfl (r_nilCheck rfl rfl) ?_)
      refine l_op rfl (o_val rfl rfl (r_fieldAddr (k := 0) rfl rfl Try.underlying35 rfl Try.sizeOf32 rfl rfl) ?_)
      refine l_op rfl (o_val rfl rfl (r_load (v := .slice a n c) rfl Try.isAgg32 rfl hb rfl) ?_)
      refine l_op rfl (o_val rfl rfl (r_move rfl rfl) ?_)
      obtain ⟨b1, o1, cs1, T1, f1, ha1, hm1, hr1⟩ := SliceAt.opn hfl (by omega)
      obtain ⟨f1, hx1⟩ : ∃ x, fl[Int.toNat (i)]? = some x := getSome (by have := hfl.len; omega)
      have hrepf1 := hra f1 (List.mem_of_getElem? hx1)
      refine l_op rfl (o_val rfl rfl (r_indexAddr rfl rfl ha1 rfl Try.underlying32 Try.sizeOf48 (by omega) (by omega)) ?_)
      refine l_op rfl (o_val rfl rfl (r_fieldAddr (k := 0) rfl rfl Try.underlying48 rfl Try.sizeOf9 rfl rfl) ?_)
      refine l_op rfl (o_val rfl rfl (r_load (v := .string f1.1.path) rfl Try.isAgg9 rfl ((fun p hp => (hD _ hp)) _ hm1) (At.get (Row.elem hr1 hx1) (j := 0) rfl)) ?_)
      refine l_op rfl (o_val rfl rfl (r_move rfl rfl) ?_)
      refine l_op rfl (o_val rfl rfl (r_seq rfl rfl rfl) ?_)
      refine l_nil ?_
      refine e_next ?_
      refine t_dec rfl (fun c24 => ?_) (fun c24 => ?_)
      · skip
        refine t_seq ?_
        refine t_region ?_
        refine l_op rfl (o_val rfl rfl (r_move rfl rfl) ?_)
        refine l_op rfl (o_val rfl rfl (r_assign rfl rfl) ?_)
        refine l_nil ?_
        refine e_next ?_
        refine t_ret ?_
        refine e_block_ret ?_
        refine e_pass_ret ?_
        refine e_pass_ret ?_
        refine e_block_ret ?_
        refine e_pass_ret ?_
        exact e_ret rfl (.tmp rfl .nil) ⟨i, rfl, rfl, (by rw [find_some hx1 c24 (fun j hj => hno j (by omega))]; simp [h0]), fun _ => ⟨f1, hx1, find_some hx1 c24 (fun j hj => hno j (by omega))⟩⟩
      · skip
        refine t_skip ?_
        refine e_block _ ?_
        refine e_next ?_
        refine t_region ?_
        refine l_op rfl (o_val rfl rfl (r_move rfl rfl) ?_)
        refine l_op rfl (o_val rfl rfl (r_add rfl rfl rfl (by omega) (by omega)) ?_)
        refine l_op rfl (o_val rfl rfl (r_assign rfl rfl) ?_)
        refine l_nil ?_
        intro aa ww hL hH
        exact ⟨_, by omega, i + 1, rfl, by omega, by omega, (find_step hno h0 hx1 c24), hL.sub (.cons (t := 0) rfl (.cons (t := 1) rfl (.cons (t := 5) rfl .nil))), hH.hs .all⟩
    · skip
      refine t_exit ?_
      refine e_pass_exit ?_
      refine e_pass_exit ?_
      refine e_block_here ?_
      refine e_next ?_
      refine t_seq ?_
      refine t_region ?_
      refine l_op rfl (o_val rfl rfl (r_assign rfl rfl) ?_)
      refine l_nil ?_
      refine e_next ?_
      refine t_ret ?_
      exact e_ret rfl (.tmp rfl .nil) ⟨-1, rfl, rfl, (by rw [find_none (i := i) (by omega) hno]; rfl), fun h => absurd h (by decide)⟩

set_option maxRecDepth 100000 in
theorem rmay_c {E : Env} {H D : Heap} (hD : ∀ p, p ∈ D → p ∈ H) {b : Nat} {a : Option Addr} {n c : Nat} {fl : List (File × FileL)} (hfl : SliceAt D encFL 4 a n c fl) (hra : RepAll D fl) (hn : n ≤ 4096) (hb : (b, .cells ([.slice a n c] : List Value).toArray 35 (0, 0)) ∈ H) {r : Rec} {ps : List Piece} (hs : SliceAt D encPiece 33 r.pa r.pn r.pc ps) :
    Fn Try.prog 17 [.pointer (some ⟨b, 0, none⟩), .agg (encRec r).toArray] E H (fun v H2 => v = .int .i64 (mayL (RL fl) r ps) ∧ ∃ X, H2 = X ++ H) := by
  have hln := hfl.len
  have hrl := RL_length fl
  refine Fn.of_body (N := 38) Try.func17 rfl rfl rfl ?_
  refine t_seq ?_
  refine t_region ?_
  refine l_op rfl (o_box rfl rfl rfl rfl rfl ?_)
  intro b1
  refine l_op rfl (o_val rfl rfl (r_assign rfl rfl) ?_)
  refine l_nil ?_
  refine e_next ?_
  refine t_seq ?_
  refine t_region ?_
  refine l_op rfl (o_val rfl rfl (r_loadAgg rfl Try.isAgg46 Try.sizeOf46 rfl List.mem_cons_self (At.self _) rfl) ?_)
  refine l_op rfl (o_call rfl rfl rfl Try.call32 rfl (rcheck_c (r := r) (fun p hp => (List.mem_cons_of_mem _ (hD _ hp))) hs) ?_)
  rintro _ _ ⟨rfl, X2, rfl⟩
  refine l_op rfl (o_val rfl rfl (r_assign rfl rfl) ?_)
  refine l_nil ?_
  refine e_next ?_
  refine t_seq ?_
  refine t_seq ?_
  refine t_region ?_
  refine l_op rfl (o_val rfl rfl (r_move rfl rfl) ?_)
  refine l_op rfl (o_val rfl rfl (r_ne rfl rfl rfl) ?_)
  refine l_nil ?_
  refine e_next ?_
  refine t_dec rfl (fun c10 => ?_) (fun c10 => ?_)
  · skip
    refine t_seq ?_
    refine t_region ?_
    refine l_op rfl (o_val rfl rfl (r_move rfl rfl) ?_)
    refine l_op rfl (o_val rfl rfl (r_assign rfl rfl) ?_)
    refine l_nil ?_
    refine e_next ?_
    refine t_ret ?_
    refine e_pass_ret ?_
    exact e_ret rfl (.tmp rfl .nil) ⟨congrArg (Value.int .i64) (may_bad c10).symm, Pre.ex (.app (.cons .refl))⟩
  · skip
    refine t_skip ?_
    refine e_next ?_
    refine t_seq ?_
    refine t_region ?_
    refine l_op rfl (o_val rfl rfl (r_move rfl rfl) ?_)
    refine l_op rfl (o_val rfl rfl (r_fieldAddr (k := 36) rfl rfl Try.underlying46 rfl Try.sizeOf9 rfl rfl) ?_)
    refine l_op rfl (o_val rfl rfl (r_load (v := .string r.path) rfl Try.isAgg9 rfl (List.mem_append_right _ List.mem_cons_self) rfl) ?_)
    refine l_op rfl (o_call rfl rfl rfl Try.call33 rfl (rfind_c (k := r.path) (fun p hp => (List.mem_append_right _ (List.mem_cons_of_mem _ (hD _ hp)))) hfl hra (by omega) (List.mem_append_right _ (List.mem_cons_of_mem _ hb))) ?_)
    rintro _ _ ⟨i3, rfl, rfl, hi3, hix3⟩
    refine l_op rfl (o_val rfl rfl (r_assign rfl rfl) ?_)
    refine l_nil ?_
    refine e_next ?_
    refine t_seq ?_
    refine t_cut (fun aa ww => Sl 38 [(0, .pointer (some ⟨b, 0, none⟩)), (3, .pointer (some ⟨b1, 0, none⟩)), (4, .int .i64 (0)), (6, .int .i64 (i3)), (22, .bool ((decide (r.kind = 3) && decide (i3 < 0))))] aa ∧ Holds E (X2 ++ ((b1, .cells (encRec r).toArray 46 (0, 0)) :: H)) ww) ?_ ?_
    · skip
      refine t_region ?_
      refine l_op rfl (o_val rfl rfl (r_fieldAddr (k := 34) rfl rfl Try.underlying46 rfl Try.sizeOf40 rfl rfl) ?_)
      refine l_op rfl (o_val rfl rfl (r_load (v := .int .i64 (r.kind)) rfl Try.isAgg40 rfl (List.mem_append_right _ List.mem_cons_self) rfl) ?_)
      refine l_op rfl (o_val rfl rfl (r_eq rfl rfl rfl) ?_)
      refine l_op rfl (o_val rfl rfl (r_move rfl rfl) ?_)
      refine t_bool (decide (r.kind = 3)) (fun hb4 => ?_) (fun hb4 => ?_)
      · skip
        have phb4 := of_decide_eq_true hb4
        refine l_yesh rfl rfl rfl hb4 (o_val rfl rfl (r_move rfl rfl) ?_)
        refine l_yesh rfl rfl rfl hb4 (o_val rfl rfl (r_lt rfl rfl rfl) ?_)
        refine l_op rfl (o_val rfl rfl (r_pickth rfl rfl hb4 rfl) ?_)
        refine l_nil ?_
        intro aa ww hL hH
        exact ⟨hL.sub (.cons (t := 0) rfl (.cons (t := 3) rfl (.cons (t := 4) rfl (.cons (t := 6) rfl (.eq (t := 22) rfl (by first | (simp [hb4]; done) | (simp only [hb4, Bool.true_and, Bool.false_and, Bool.true_or, Bool.false_or, Bool.and_true, Bool.and_false]; done)) .nil))))), hH.hs (.seg .here (.cell .head .all))⟩
      · skip
        have phb4 := of_decide_eq_false hb4
        refine l_noh rfl rfl rfl hb4 rfl rfl ?_
        refine l_noh rfl rfl rfl hb4 rfl rfl ?_
        refine l_op rfl (o_val rfl rfl (r_pickfh rfl rfl hb4 rfl) ?_)
        refine l_nil ?_
        intro aa ww hL hH
        exact ⟨hL.sub (.cons (t := 0) rfl (.cons (t := 3) rfl (.cons (t := 4) rfl (.cons (t := 6) rfl (.eq (t := 22) rfl (by first | (simp [hb4]; done) | (simp only [hb4, Bool.true_and, Bool.false_and, Bool.true_or, Bool.false_or, Bool.and_true, Bool.and_false]; done)) .nil))))), hH.hs (.seg .here (.cell .head .all))⟩
    rintro aa ww ⟨hL, hH⟩
    refine Then.run hL hH ?_
    clear hL hH aa ww
    refine t_cond rfl (fun c22 => ?_) (fun c22 => ?_)
    · skip
      try simp only [Bool.or_eq_true, Bool.and_eq_true, decide_eq_true_eq, Bool.not_eq_true', decide_eq_false_iff_not] at c22
      refine t_seq ?_
      refine t_region ?_
      refine l_op rfl (o_val rfl rfl (r_assign rfl rfl) ?_)
      refine l_nil ?_
      refine e_next ?_
      refine t_ret ?_
      refine e_pass_ret ?_
      exact e_ret rfl (.tmp rfl .nil) ⟨congrArg (Value.int .i64) (mayL_150 hi3 c10 c22).symm, Pre.ex (.app (.cons .refl))⟩
    · skip
      try simp only [Bool.or_eq_false_iff, Bool.and_eq_false_iff, decide_eq_false_iff_not, Bool.not_eq_false', decide_eq_true_eq] at c22
      refine t_skip ?_
      refine e_next ?_
      refine t_seq ?_
      refine t_cut (fun aa ww => Sl 38 [(4, .int .i64 (0)), (37, .bool (((decide (r.kind = 2) && decide (i3 < 0)) && decide ((n : Int) ≥ 1024))))] aa ∧ Holds E (X2 ++ ((b1, .cells (encRec r).toArray 46 (0, 0)) :: H)) ww) ?_ ?_
      · skip
        refine t_region ?_
        refine l_op rfl (o_val rfl rfl (r_fieldAddr (k := 34) rfl rfl Try.underlying46 rfl Try.sizeOf40 rfl rfl) ?_)
        refine l_op rfl (o_val rfl rfl (r_load (v := .int .i64 (r.kind)) rfl Try.isAgg40 rfl (List.mem_append_right _ List.mem_cons_self) rfl) ?_)
        refine l_op rfl (o_val rfl rfl (r_eq rfl rfl rfl) ?_)
        refine l_op rfl (o_val rfl rfl (r_move rfl rfl) ?_)
        refine t_bool (decide (r.kind = 2)) (fun hb5 => ?_) (fun hb5 => ?_)
        · skip
          have phb5 := of_decide_eq_true hb5
          refine l_yesh rfl rfl rfl hb5 (o_val rfl rfl (r_move rfl rfl) ?_)
          refine l_yesh rfl rfl rfl hb5 (o_val rfl rfl (r_lt rfl rfl rfl) ?_)
          refine l_op rfl (o_val rfl rfl (r_pickth rfl rfl hb5 rfl) ?_)
          refine l_op rfl (o_val rfl rfl (r_move rfl rfl) ?_)
          refine t_bool (decide (i3 < 0)) (fun hb6 => ?_) (fun hb6 => ?_)
          · skip
            have phb6 := of_decide_eq_true hb6
            refine l_yesh rfl rfl rfl hb6 (o_val rfl rfl (r_move rfl rfl) ?_)
            refine l_yesh rfl rfl rfl hb6 (o_val rfl rfl (r_nilCheck rfl rfl) ?_)
            refine l_yesh rfl rfl rfl hb6 (o_val rfl rfl (r_fieldAddr (k := 0) rfl rfl Try.underlying35 rfl Try.sizeOf32 rfl rfl) ?_)
            refine l_yesh rfl rfl rfl hb6 (o_val rfl rfl (r_load (v := .slice a n c) rfl Try.isAgg32 rfl (List.mem_append_right _ (List.mem_cons_of_mem _ hb)) rfl) ?_)
            refine l_yesh rfl rfl rfl hb6 (o_val rfl rfl (r_len rfl rfl Try.underlying32) ?_)
            refine l_yesh rfl rfl rfl hb6 (o_val rfl rfl (r_ge rfl rfl rfl) ?_)
            refine l_op rfl (o_val rfl rfl (r_pickth rfl rfl hb6 rfl) ?_)
            refine l_nil ?_
            intro aa ww hL hH
            exact ⟨hL.sub (.cons (t := 4) rfl (.eq (t := 37) rfl (by first | (simp [hb5, hb6]; done) | (simp only [hb5, hb6, Bool.true_and, Bool.false_and, Bool.true_or, Bool.false_or, Bool.and_true, Bool.and_false]; done)) .nil)), hH.hs (.seg .here (.cell .head .all))⟩
          · skip
            have phb6 := of_decide_eq_false hb6
            refine l_noh rfl rfl rfl hb6 rfl rfl ?_
            refine l_noh rfl rfl rfl hb6 rfl rfl ?_
            refine l_noh rfl rfl rfl hb6 rfl rfl ?_
            refine l_noh rfl rfl rfl hb6 rfl rfl ?_
            refine l_noh rfl rfl rfl hb6 rfl rfl ?_
            refine l_noh rfl rfl rfl hb6 rfl rfl ?_
            refine l_op rfl (o_val rfl rfl (r_pickfh rfl rfl hb6 rfl) ?_)
            refine l_nil ?_
            intro aa ww hL hH
            exact ⟨hL.sub (.cons (t := 4) rfl (.eq (t := 37) rfl (by first | (simp [hb5, hb6]; done) | (simp only [hb5, hb6, Bool.true_and, Bool.false_and, Bool.true_or, Bool.false_or, Bool.and_true, Bool.and_false]; done)) .nil)), hH.hs (.seg .here (.cell .head .all))⟩
        · skip
          have phb5 := of_decide_eq_false hb5
          refine l_noh rfl rfl rfl hb5 rfl rfl ?_
          refine l_noh rfl rfl rfl hb5 rfl rfl ?_
          refine l_op rfl (o_val rfl rfl (r_pickfh rfl rfl hb5 rfl) ?_)
          refine l_op rfl (o_val rfl rfl (r_move rfl rfl) ?_)
          refine l_no rfl rfl rfl rfl rfl rfl ?_
          refine l_no rfl rfl rfl rfl rfl rfl ?_
          refine l_no rfl rfl rfl rfl rfl rfl ?_
          refine l_no rfl rfl rfl rfl rfl rfl ?_
          refine l_no rfl rfl rfl rfl rfl rfl ?_
          refine l_no rfl rfl rfl rfl rfl rfl ?_
          refine l_op rfl (o_val rfl rfl (r_pickf rfl rfl rfl) ?_)
          refine l_nil ?_
          intro aa ww hL hH
          exact ⟨hL.sub (.cons (t := 4) rfl (.eq (t := 37) rfl (by first | (simp [hb5]; done) | (simp only [hb5, Bool.true_and, Bool.false_and, Bool.true_or, Bool.false_or, Bool.and_true, Bool.and_false]; done)) .nil)), hH.hs (.seg .here (.cell .head .all))⟩
      rintro aa ww ⟨hL, hH⟩
      refine Then.run hL hH ?_
      clear hL hH aa ww
      refine t_cond rfl (fun c37 => ?_) (fun c37 => ?_)
      · skip
        try simp only [Bool.or_eq_true, Bool.and_eq_true, decide_eq_true_eq, Bool.not_eq_true', decide_eq_false_iff_not] at c37
        refine t_seq ?_
        refine t_region ?_
        refine l_op rfl (o_val rfl rfl (r_assign rfl rfl) ?_)
        refine l_nil ?_
        refine e_next ?_
        refine t_ret ?_
        refine e_pass_ret ?_
        exact e_ret rfl (.tmp rfl .nil) ⟨congrArg (Value.int .i64) (mayL_3 hi3 c10 (by omega)).symm, Pre.ex (.app (.cons .refl))⟩
      · skip
        try simp only [Bool.or_eq_false_iff, Bool.and_eq_false_iff, decide_eq_false_iff_not, Bool.not_eq_false', decide_eq_true_eq] at c37
        refine t_skip ?_
        refine e_next ?_
        refine t_seq ?_
        refine t_region ?_
        refine l_op rfl (o_val rfl rfl (r_assign rfl rfl) ?_)
        refine l_nil ?_
        refine e_next ?_
        refine t_ret ?_
        exact e_ret rfl (.tmp rfl .nil) ⟨congrArg (Value.int .i64) (mayL_0 hi3 c10 (by omega) (by omega)).symm, Pre.ex (.app (.cons .refl))⟩

set_option maxRecDepth 100000 in
theorem rapply_c {E : Env} {H D : Heap} (hD : ∀ p, p ∈ D → p ∈ H) {b : Nat} {a : Option Addr} {n c : Nat} {fl : List (File × FileL)} (hfl : SliceAt D encFL 4 a n c fl) (hra : RepAll D fl) (hn : n ≤ 4096) {r : Rec} {ps : List Piece} (hs : SliceAt D encPiece 33 r.pa r.pn r.pc ps) :
    Fn Try.prog 19 [.pointer (some ⟨b, 0, none⟩), .agg (encRec r).toArray] E ((b, .cells ([.slice a n c]).toArray 35 (0, 0)) :: H) (fun v H2 => ∃ X a2 n2 c2 fl2, v = .int .i64 (mayL (RL fl) r ps) ∧ H2 = X ++ ((b, .cells ([.slice a2 n2 c2] : List Value).toArray 35 (0, 0)) :: H) ∧ SliceAt (X ++ D) encFL 4 a2 n2 c2 fl2 ∧ RepAll (X ++ D) fl2 ∧ RL fl2 = rapplyL (RL fl) r ps) := by
  have hln := hfl.len
  have hlp := hs.len
  refine Fn.of_body (N := 94) Try.func19 rfl rfl rfl ?_
  refine t_seq ?_
  refine t_region ?_
  refine l_op rfl (o_box rfl rfl rfl rfl rfl ?_)
  intro b1
  refine l_op rfl (o_val rfl rfl (r_assign rfl rfl) ?_)
  refine l_nil ?_
  refine e_next ?_
  refine t_seq ?_
  refine t_region ?_
  refine l_op rfl (o_val rfl rfl (r_move rfl rfl) ?_)
  refine l_op rfl (o_val rfl rfl (r_loadAgg rfl Try.isAgg46 Try.sizeOf46 rfl List.mem_cons_self (At.self _) rfl) ?_)
  refine l_op rfl (o_call rfl rfl rfl Try.call17 rfl (rmay_c (r := r) (D := D) (fun p hp => (List.mem_cons_of_mem _ (List.mem_cons_of_mem _ (hD _ hp)))) (SliceAt.mono hfl (fun p hp => hp)) (RepAll.mono hra (fun p hp => hp)) (by omega) (List.mem_cons_of_mem _ List.mem_cons_self) (SliceAt.mono hs (fun p hp => hp))) ?_)
  rintro _ _ ⟨rfl, X2, rfl⟩
  refine l_op rfl (o_val rfl rfl (r_assign rfl rfl) ?_)
  refine l_nil ?_
  refine e_next ?_
  refine t_seq ?_
  refine t_seq ?_
  refine t_region ?_
  refine l_op rfl (o_val rfl rfl (r_move rfl rfl) ?_)
  refine l_op rfl (o_val rfl rfl (r_ne rfl rfl rfl) ?_)
  refine l_nil ?_
  refine e_next ?_
  refine t_dec rfl (fun c14 => ?_) (fun c14 => ?_)
  · skip
    refine t_seq ?_
    refine t_region ?_
    refine l_op rfl (o_val rfl rfl (r_move rfl rfl) ?_)
    refine l_op rfl (o_val rfl rfl (r_assign rfl rfl) ?_)
    refine l_nil ?_
    refine e_next ?_
    refine t_ret ?_
    refine e_pass_ret ?_
    refine Then.mem (.seg .here (.cell .head (.cell .head .all))) ?_
    exact e_ret rfl (.tmp rfl .nil) ⟨_, a, n, c, fl, rfl, (PreL.eq (.app (.cons .refl))), hfl.mono (fun p hp => List.mem_append_right _ hp), hra.mono (fun p hp => List.mem_append_right _ hp), (rapply_bad c14).symm⟩
  · skip
    refine t_skip ?_
    refine e_next ?_
    refine t_seq ?_
    have hfew := recOk_few (may_ok c14)
    refine t_region ?_
    refine l_op rfl (o_val rfl rfl (r_assign rfl rfl) ?_)
    refine l_nil ?_
    refine e_next ?_
    refine t_cut (fun aa ww => ∃ (bf : Nat) (pa : Option Addr) (pc : Nat) (Xp : Heap), (SliceAt Xp encPiece 33 pa ps.length pc ps) ∧ Sl 94 [(0, .pointer (some ⟨b, 0, none⟩)), (3, .pointer (some ⟨b1, 0, none⟩)), (6, .slice none 0 0), (7, .pointer (some ⟨bf, 0, none⟩))] aa ∧ Holds E ((bf, .cells (encFile (⟨r.path, 0, r.seq, pa, ps.length, pc⟩ : File)).toArray 48 (0, 0)) :: (Xp ++ (X2 ++ ((b1, .cells (encRec r).toArray 46 (0, 0)) :: ((b, .cells ([.slice a n c]).toArray 35 (0, 0)) :: H))))) ww) ?_ ?_
    · skip
      refine t_draw (n := 11) .all rfl (by kernel_rfl) ?_
      refine a_take (i := 0) rfl rfl rfl rfl (by kernel_rfl) (by kernel_rfl) (by kernel_rfl) (fun _ _ _ h => h) .all (r_fieldAddr (k := 36) rfl rfl Try.underlying46 rfl Try.sizeOf9 rfl rfl) ?_
      refine a_take (i := 1) rfl rfl rfl rfl (by kernel_rfl) (by kernel_rfl) (by kernel_rfl) (fun _ _ _ h => h) .all (r_load (v := .string r.path) rfl Try.isAgg9 rfl (List.mem_append_right _ List.mem_cons_self) rfl) ?_
      refine a_take (i := 2) rfl rfl rfl rfl (by kernel_rfl) (by kernel_rfl) (by kernel_rfl) (fun _ _ _ h => h) .all (r_fieldAddr (k := 0) rfl rfl Try.underlying46 rfl Try.sizeOf3 rfl rfl) ?_
      refine a_take (i := 3) rfl rfl rfl rfl (by kernel_rfl) (by kernel_rfl) (by kernel_rfl) (fun _ _ _ h => h) .all (r_load (v := .int .i64 (r.seq)) rfl Try.isAgg3 rfl (List.mem_append_right _ List.mem_cons_self) rfl) ?_
      refine a_take (i := 5) rfl rfl rfl rfl (by kernel_rfl) (by kernel_rfl) (by kernel_rfl) (fun _ _ _ h => h) .all (r_fieldAddr (k := 37) rfl rfl Try.underlying46 rfl Try.sizeOf44 rfl rfl) ?_
      refine a_take (i := 6) rfl rfl rfl rfl (by kernel_rfl) (by kernel_rfl) (by kernel_rfl) (fun _ _ _ h => h) .all (r_load (v := .slice r.pa r.pn r.pc) rfl Try.isAgg44 rfl (List.mem_append_right _ List.mem_cons_self) rfl) ?_
      refine a_two (i := 4) (j := 9) (by kernel_rfl) ?_ ?_
      · skip
        refine w_op rfl rfl (o_slice0 rfl rfl rfl Try.underlying44 Try.sizeOf66 ?_)
        intro b3
        refine a_keep (.drop .all) ?_
        refine a_two (i := 7) (j := 9) (by kernel_rfl) ?_ ?_
        · skip
          refine w_op rfl rfl (o_appendS (enc := encPiece) (xs := []) (l := ps) rfl rfl rfl rfl rfl Try.underlying44 Try.type66 rfl rfl rfl rfl (fun _ => rfl) (fun _ => rfl) Own.empty .here (SliceAt.mono hs (fun p hp => (List.mem_cons_of_mem _ (List.mem_append_right _ (List.mem_cons_of_mem _ (List.mem_cons_of_mem _ (hD _ hp))))))) (by show (_ + _) * 40 ≤ _; (try simp only [List.length_nil, List.length_cons, List.length_append, List.length_map, List.length_take, endsL_length]); omega) (by (try simp only [List.length_nil, List.length_cons, List.length_append, List.length_map, List.length_take, endsL_length]); omega) ?_)
          intro v4 X4 ho4
          refine a_keep (.dropS .all) ?_
          try rw [List.nil_append] at ho4
          obtain ⟨a5, c5, rfl, hs5⟩ := ho4.at
          refine a_take (i := 8) rfl rfl rfl rfl (by kernel_rfl) (by kernel_rfl) (by kernel_rfl) (fun _ _ _ h => h) (.dropS .all) (r_build (cells := encFile (⟨r.path, 0, r.seq, a5,  ps.length, c5⟩ : File)) rfl rfl (by kernel_rfl)) ?_
          refine a_one (i := 9) rfl rfl (by kernel_rfl) (o_alloc rfl rfl rfl Try.zeroValue48 rfl ?_)
          intro b6
          refine a_keep (.drop (.dropS .all)) ?_
          refine a_one (i := 10) rfl rfl (by kernel_rfl) (o_storeAgg (ys := encFile (⟨r.path, 0, r.seq, a5,  ps.length, c5⟩ : File)) rfl rfl rfl rfl rfl Try.sizeOf48 .head rfl ?_)
          refine a_keep (.drop (.dropS .all)) ?_
          refine a_done (by kernel_rfl) ?_
          intro aa ww hL hH
          exact ⟨b6, a5, c5, X4, hs5, hL.sub (.cons (t := 0) rfl (.cons (t := 3) rfl (.cons (t := 6) rfl (.cons (t := 7) rfl .nil)))), hH.hs (.cell .head (.seg .here (.seg .here (.cell .head (.cell .head .all)))))⟩
        · skip
          refine w_op rfl rfl (o_alloc rfl rfl rfl Try.zeroValue48 rfl ?_)
          intro b7
          refine a_keep (.drop (.drop .all)) ?_
          refine a_one (i := 7) rfl rfl (by kernel_rfl) (o_appendS (enc := encPiece) (xs := []) (l := ps) rfl rfl rfl rfl rfl Try.underlying44 Try.type66 rfl rfl rfl rfl (fun _ => rfl) (fun _ => rfl) Own.empty (.tail .here) (SliceAt.mono hs (fun p hp => (List.mem_cons_of_mem _ (List.mem_cons_of_mem _ (List.mem_append_right _ (List.mem_cons_of_mem _ (List.mem_cons_of_mem _ (hD _ hp)))))))) (by show (_ + _) * 40 ≤ _; (try simp only [List.length_nil, List.length_cons, List.length_append, List.length_map, List.length_take, endsL_length]); omega) (by (try simp only [List.length_nil, List.length_cons, List.length_append, List.length_map, List.length_take, endsL_length]); omega) ?_)
          intro v8 X8 ho8
          refine a_keep (.dropS (.drop .all)) ?_
          try rw [List.nil_append] at ho8
          obtain ⟨a9, c9, rfl, hs9⟩ := ho8.at
          refine a_take (i := 8) rfl rfl rfl rfl (by kernel_rfl) (by kernel_rfl) (by kernel_rfl) (fun _ _ _ h => h) (.dropS (.drop .all)) (r_build (cells := encFile (⟨r.path, 0, r.seq, a9,  ps.length, c9⟩ : File)) rfl rfl (by kernel_rfl)) ?_
          refine a_one (i := 10) rfl rfl (by kernel_rfl) (o_storeAgg (ys := encFile (⟨r.path, 0, r.seq, a9,  ps.length, c9⟩ : File)) rfl rfl rfl rfl rfl Try.sizeOf48 (.app .head) rfl ?_)
          refine a_keep (.drop (.dropS .all)) ?_
          refine a_done (by kernel_rfl) ?_
          intro aa ww hL hH
          exact ⟨b7, a9, c9, X8, hs9, hL.sub (.cons (t := 0) rfl (.cons (t := 3) rfl (.cons (t := 6) rfl (.cons (t := 7) rfl .nil)))), hH.hs (.cell .head (.seg .here (.seg .here (.cell .head (.cell .head .all)))))⟩
      · skip
        refine w_op rfl rfl (o_alloc rfl rfl rfl Try.zeroValue48 rfl ?_)
        intro b10
        refine a_keep (.drop .all) ?_
        refine a_one (i := 4) rfl rfl (by kernel_rfl) (o_slice0 rfl rfl rfl Try.underlying44 Try.sizeOf66 ?_)
        intro b11
        refine a_keep (.drop (.drop .all)) ?_
        refine a_one (i := 7) rfl rfl (by kernel_rfl) (o_appendS (enc := encPiece) (xs := []) (l := ps) rfl rfl rfl rfl rfl Try.underlying44 Try.type66 rfl rfl rfl rfl (fun _ => rfl) (fun _ => rfl) Own.empty .here (SliceAt.mono hs (fun p hp => (List.mem_cons_of_mem _ (List.mem_cons_of_mem _ (List.mem_append_right _ (List.mem_cons_of_mem _ (List.mem_cons_of_mem _ (hD _ hp)))))))) (by show (_ + _) * 40 ≤ _; (try simp only [List.length_nil, List.length_cons, List.length_append, List.length_map, List.length_take, endsL_length]); omega) (by (try simp only [List.length_nil, List.length_cons, List.length_append, List.length_map, List.length_take, endsL_length]); omega) ?_)
        intro v12 X12 ho12
        refine a_keep (.dropS (.drop .all)) ?_
        try rw [List.nil_append] at ho12
        obtain ⟨a13, c13, rfl, hs13⟩ := ho12.at
        refine a_take (i := 8) rfl rfl rfl rfl (by kernel_rfl) (by kernel_rfl) (by kernel_rfl) (fun _ _ _ h => h) (.dropS (.drop .all)) (r_build (cells := encFile (⟨r.path, 0, r.seq, a13,  ps.length, c13⟩ : File)) rfl rfl (by kernel_rfl)) ?_
        refine a_one (i := 10) rfl rfl (by kernel_rfl) (o_storeAgg (ys := encFile (⟨r.path, 0, r.seq, a13,  ps.length, c13⟩ : File)) rfl rfl rfl rfl rfl Try.sizeOf48 (.app .head) rfl ?_)
        refine a_keep (.drop (.dropS .all)) ?_
        refine a_done (by kernel_rfl) ?_
        intro aa ww hL hH
        exact ⟨b10, a13, c13, X12, hs13, hL.sub (.cons (t := 0) rfl (.cons (t := 3) rfl (.cons (t := 6) rfl (.cons (t := 7) rfl .nil)))), hH.hs (.cell .head (.seg .here (.seg .here (.cell .head (.cell .head .all)))))⟩
    rintro aa ww ⟨bf, pa, pc, Xp, hpa, hL, hH⟩
    refine Then.run hL hH ?_
    clear hL hH aa ww
    refine t_seq ?_
    refine t_region ?_
    refine l_op rfl (o_val rfl rfl (r_fieldAddr (k := 37) rfl rfl Try.underlying46 rfl Try.sizeOf44 rfl rfl) ?_)
    refine l_op rfl (o_val rfl rfl (r_load (v := .slice r.pa r.pn r.pc) rfl Try.isAgg44 rfl (List.mem_cons_of_mem _ (List.mem_append_right _ (List.mem_append_right _ List.mem_cons_self))) rfl) ?_)
    refine l_op rfl (o_call rfl rfl rfl Try.call35 rfl (rsize_c (fun p hp => (List.mem_cons_of_mem _ (List.mem_append_right _ (List.mem_append_right _ (List.mem_cons_of_mem _ (List.mem_cons_of_mem _ (hD _ hp))))))) hs) ?_)
    rintro _ _ ⟨rfl, he⟩
    rw [he]
    clear he
    obtain ⟨z, e, hze, _, hzz⟩ := sizeV_parts2 ps
    rw [hze]
    refine l_op rfl (o_val rfl rfl (r_move rfl rfl) ?_)
    refine l_op rfl (o_val rfl rfl (r_extract (v := .int .i64 (z)) rfl rfl rfl) ?_)
    refine l_op rfl (o_val rfl rfl (r_extract (v := .int .i64 (e)) rfl rfl rfl) ?_)
    refine l_op rfl (o_val rfl rfl (r_fieldAddr (k := 1) rfl rfl Try.underlying48 rfl Try.sizeOf3 rfl rfl) ?_)
    refine l_op rfl (o_store rfl rfl rfl rfl rfl Try.sizeOf3 .head rfl ?_)
    refine Then.of_eq (H2 := ((bf, .cells (encFile ({ (⟨r.path, 0, r.seq, pa, ps.length, pc⟩ : File) with size := z } : File)).toArray 48 (0, 0)) :: (Xp ++ (X2 ++ ((b1, .cells (encRec r).toArray 46 (0, 0)) :: ((b, .cells ([.slice a n c]).toArray 35 (0, 0)) :: H)))))) rfl ?_
    refine l_nil ?_
    refine e_next ?_
    refine t_seq ?_
    refine t_region ?_
    refine l_op rfl (o_val rfl rfl (r_fieldAddr (k := 34) rfl rfl Try.underlying46 rfl Try.sizeOf40 rfl rfl) ?_)
    refine l_op rfl (o_val rfl rfl (r_load (v := .int .i64 (r.kind)) rfl Try.isAgg40 rfl (List.mem_cons_of_mem _ (List.mem_append_right _ (List.mem_append_right _ List.mem_cons_self))) rfl) ?_)
    refine l_op rfl (o_val rfl rfl (r_ne rfl rfl rfl) ?_)
    refine l_op rfl (o_val rfl rfl (r_assign rfl rfl) ?_)
    refine l_nil ?_
    refine e_next ?_
    refine t_seq ?_
    refine t_seq ?_
    have hfr : r.kind = 2 → FRep (Xp ++ D) r.path ({ (⟨r.path, 0, r.seq, pa, ps.length, pc⟩ : File) with size := z } : File) ⟨z, r.seq, ps⟩ := fun hk => ⟨rfl, rfl, rfl, hpa.mono (fun p hp => List.mem_append_left _ hp), (by obtain ⟨w, hw⟩ := recOk_size (may_ok c14) hk; rw [hw, hzz w hw])⟩
    have hzk : r.kind = 2 → recSize ps = some z := fun hk => (hfr hk).tot
    refine t_region ?_
    refine l_op rfl (o_val rfl rfl (r_assign rfl rfl) ?_)
    refine l_nil ?_
    refine e_next ?_
    refine t_block ?_
    refine t_loop (fun (mz : Nat) aa ww => ∃ (i : Int) (pt : Bool) (vo : Value) (ls : List (File × FileL)) (Xo : Heap), mz = (n - i.toNat) ∧ (0 ≤ i) ∧ (i ≤ n) ∧ (Own 4 48 vo (ls.map encFL) Xo) ∧ (RepAll (Xp ++ D) ls) ∧ (RL ls ++ insGo r.path ⟨z, r.seq, ps⟩ pt (RL (fl.drop i.toNat)) = insGo r.path ⟨z, r.seq, ps⟩ (decide (r.kind ≠ 2)) (RL fl)) ∧ (pt = false → r.kind = 2) ∧ (ls.length ≤ 2 * i.toNat) ∧ Sl 94 [(0, .pointer (some ⟨b, 0, none⟩)), (3, .pointer (some ⟨b1, 0, none⟩)), (6, vo), (7, .pointer (some ⟨bf, 0, none⟩)), (8, .bool (pt)), (9, .int .i64 (i))] aa ∧ Holds E (Xo ++ ((bf, .cells (encFile ({ (⟨r.path, 0, r.seq, pa, ps.length, pc⟩ : File) with size := z } : File)).toArray 48 (0, 0)) :: (Xp ++ (X2 ++ ((b1, .cells (encRec r).toArray 46 (0, 0)) :: ((b, .cells ([.slice a n c]).toArray 35 (0, 0)) :: H)))))) ww) (n) ?_ ?_
    · intro aa ww hL hH
      exact ⟨0, decide (r.kind ≠ 2), .slice none 0 0, [], [], rfl, by omega, by omega, Own.nil _ _, (fun x hx => by cases hx), rfl, (fun h => Decidable.not_not.1 (of_decide_eq_false h)), (Nat.zero_le _), hL.sub (.cons (t := 0) rfl (.cons (t := 3) rfl (.cons (t := 6) rfl (.cons (t := 7) rfl (.cons (t := 8) rfl (.cons (t := 9) rfl .nil)))))), hH.hs (.seg (S := []) .here (.cell .head (.seg .here (.seg .here (.cell .head (.cell .head .all))))))⟩
    · skip
      rintro mz aa ww ⟨i, pt, vo, ls, Xo, hmz, h0, h1, ho, hrs, hins, hpk, hll, hL, hH⟩
      refine Then.run hL hH ?_
      clear hL hH aa ww
      refine t_seq ?_
      refine t_seq ?_
      refine t_region ?_
      refine l_op rfl (o_val rfl rfl (r_move rfl rfl) ?_)
      refine l_op rfl (o_val rfl rfl (r_move rfl rfl) ?_)
      refine l_op rfl (o_val rfl rfl (r_nilCheck rfl rfl) ?_)
      refine l_op rfl (o_val rfl rfl (r_fieldAddr (k := 0) rfl rfl Try.underlying35 rfl Try.sizeOf32 rfl rfl) ?_)
      refine l_op rfl (o_val rfl rfl (r_load (v := .slice a n c) rfl Try.isAgg32 rfl (List.mem_append_right _ (List.mem_cons_of_mem _ (List.mem_append_right _ (List.mem_append_right _ (List.mem_cons_of_mem _ List.mem_cons_self))))) rfl) ?_)
      refine l_op rfl (o_val rfl rfl (r_len rfl rfl Try.underlying32) ?_)
      refine l_op rfl (o_val rfl rfl (r_lt rfl rfl rfl) ?_)
      refine l_nil ?_
      refine e_next ?_
      refine t_dec rfl (fun c41 => ?_) (fun c41 => ?_)
      · skip
        refine t_skip ?_
        refine e_next ?_
        refine t_seq ?_
        refine t_block ?_
        refine t_seq ?_
        obtain ⟨b14, o14, cs14, T14, f14, ha14, hm14, hr14⟩ := SliceAt.opn hfl (by omega)
        obtain ⟨f1, hx1⟩ : ∃ x, fl[Int.toNat (i)]? = some x := getSome (by have := hfl.len; omega)
        have hrepf1 := hra f1 (List.mem_of_getElem? hx1)
        refine t_cut (fun aa ww => Sl 94 [(0, .pointer (some ⟨b, 0, none⟩)), (3, .pointer (some ⟨b1, 0, none⟩)), (6, vo), (7, .pointer (some ⟨bf, 0, none⟩)), (8, .bool (pt)), (9, .int .i64 (i)), (58, .bool (((!pt) && (!strLt f1.1.path r.path))))] aa ∧ Holds E (Xo ++ ((bf, .cells (encFile ({ (⟨r.path, 0, r.seq, pa, ps.length, pc⟩ : File) with size := z } : File)).toArray 48 (0, 0)) :: (Xp ++ (X2 ++ ((b1, .cells (encRec r).toArray 46 (0, 0)) :: ((b, .cells ([.slice a n c]).toArray 35 (0, 0)) :: H)))))) ww) ?_ ?_
        · skip
          refine t_draw (n := 15) .all rfl (by kernel_rfl) ?_
          refine a_take (i := 0) rfl rfl rfl rfl (by kernel_rfl) (by kernel_rfl) (by kernel_rfl) (fun _ _ _ h => h) .all (r_move rfl rfl) ?_
          refine a_take (i := 1) rfl rfl rfl rfl (by kernel_rfl) (by kernel_rfl) (by kernel_rfl) (fun _ _ _ h => h) .all (r_not rfl rfl) ?_
          refine a_take (i := 2) rfl rfl rfl rfl (by kernel_rfl) (by kernel_rfl) (by kernel_rfl) (fun _ _ _ h => h) .all (r_move rfl rfl) ?_
          refine t_bool ((!pt)) (fun hb15 => ?_) (fun hb15 => ?_)
          · skip
            refine a_takegh (i := 3) rfl rfl rfl rfl rfl rfl hb15 (by kernel_rfl) (by kernel_rfl) (by kernel_rfl) (fun _ _ _ h => h) .all (r_move rfl rfl) ?_
            refine a_takegh (i := 4) rfl rfl rfl rfl rfl rfl hb15 (by kernel_rfl) (by kernel_rfl) (by kernel_rfl) (fun _ _ _ h => h) .all (r_nilCheck rfl rfl) ?_
            refine a_takegh (i := 5) rfl rfl rfl rfl rfl rfl hb15 (by kernel_rfl) (by kernel_rfl) (by kernel_rfl) (fun _ _ _ h => h) .all (r_fieldAddr (k := 0) rfl rfl Try.underlying35 rfl Try.sizeOf32 rfl rfl) ?_
            refine a_takegh (i := 6) rfl rfl rfl rfl rfl rfl hb15 (by kernel_rfl) (by kernel_rfl) (by kernel_rfl) (fun _ _ _ h => h) .all (r_load (v := .slice a n c) rfl Try.isAgg32 rfl (List.mem_append_right _ (List.mem_cons_of_mem _ (List.mem_append_right _ (List.mem_append_right _ (List.mem_cons_of_mem _ List.mem_cons_self))))) rfl) ?_
            refine a_takegh (i := 7) rfl rfl rfl rfl rfl rfl hb15 (by kernel_rfl) (by kernel_rfl) (by kernel_rfl) (fun _ _ _ h => h) .all (r_move rfl rfl) ?_
            refine a_takegh (i := 8) rfl rfl rfl rfl rfl rfl hb15 (by kernel_rfl) (by kernel_rfl) (by kernel_rfl) (fun _ _ _ h => h) .all (r_indexAddr rfl rfl ha14 rfl Try.underlying32 Try.sizeOf48 (by omega) (by omega)) ?_
            refine a_takegh (i := 9) rfl rfl rfl rfl rfl rfl hb15 (by kernel_rfl) (by kernel_rfl) (by kernel_rfl) (fun _ _ _ h => h) .all (r_fieldAddr (k := 0) rfl rfl Try.underlying48 rfl Try.sizeOf9 rfl rfl) ?_
            refine a_takegh (i := 10) rfl rfl rfl rfl rfl rfl hb15 (by kernel_rfl) (by kernel_rfl) (by kernel_rfl) (fun _ _ _ h => h) .all (r_load (v := .string f1.1.path) rfl Try.isAgg9 rfl ((fun p hp => (List.mem_append_right _ (List.mem_cons_of_mem _ (List.mem_append_right _ (List.mem_append_right _ (List.mem_cons_of_mem _ (List.mem_cons_of_mem _ (hD _ hp)))))))) _ hm14) (At.get (Row.elem hr14 hx1) (j := 0) rfl)) ?_
            refine a_takegh (i := 11) rfl rfl rfl rfl rfl rfl hb15 (by kernel_rfl) (by kernel_rfl) (by kernel_rfl) (fun _ _ _ h => h) .all (r_fieldAddr (k := 36) rfl rfl Try.underlying46 rfl Try.sizeOf9 rfl rfl) ?_
            refine a_takegh (i := 12) rfl rfl rfl rfl rfl rfl hb15 (by kernel_rfl) (by kernel_rfl) (by kernel_rfl) (fun _ _ _ h => h) .all (r_load (v := .string r.path) rfl Try.isAgg9 rfl (List.mem_append_right _ (List.mem_cons_of_mem _ (List.mem_append_right _ (List.mem_append_right _ List.mem_cons_self)))) rfl) ?_
            refine a_takegh (i := 13) rfl rfl rfl rfl rfl rfl hb15 (by kernel_rfl) (by kernel_rfl) (by kernel_rfl) (fun _ _ _ h => h) .all (r_sge rfl rfl rfl) ?_
            refine a_take (i := 14) rfl rfl rfl rfl (by kernel_rfl) (by kernel_rfl) (by kernel_rfl) (fun _ _ _ h => h) .all (r_pickth rfl rfl hb15 rfl) ?_
            refine a_done (by kernel_rfl) ?_
            refine Then.slots (.cons (t := 0) rfl (.cons (t := 3) rfl (.cons (t := 6) rfl (.cons (t := 7) rfl (.cons (t := 8) rfl (.cons (t := 9) rfl (.cons (t := 58) rfl .nil))))))) ?_
            intro aa ww hL hH
            exact ⟨hL.sub (.cons (t := 0) rfl (.cons (t := 3) rfl (.cons (t := 6) rfl (.cons (t := 7) rfl (.cons (t := 8) rfl (.cons (t := 9) rfl (.eq (t := 58) rfl (by first | (simp [hb15]; done) | (simp only [hb15, Bool.true_and, Bool.false_and, Bool.true_or, Bool.false_or, Bool.and_true, Bool.and_false]; done)) .nil))))))), hH.hs (.seg .here (.cell .head (.seg .here (.seg .here (.cell .head (.cell .head .all))))))⟩
          · skip
            refine a_skiph (i := 3) rfl rfl rfl rfl rfl rfl hb15 (by kernel_rfl) (by kernel_rfl) (by kernel_rfl) (fun _ _ _ h => h) .all ?_
            refine a_skiph (i := 4) rfl rfl rfl rfl rfl rfl hb15 (by kernel_rfl) (by kernel_rfl) (by kernel_rfl) (fun _ _ _ h => h) .all ?_
            refine a_skiph (i := 5) rfl rfl rfl rfl rfl rfl hb15 (by kernel_rfl) (by kernel_rfl) (by kernel_rfl) (fun _ _ _ h => h) .all ?_
            refine a_skiph (i := 6) rfl rfl rfl rfl rfl rfl hb15 (by kernel_rfl) (by kernel_rfl) (by kernel_rfl) (fun _ _ _ h => h) .all ?_
            refine a_skiph (i := 7) rfl rfl rfl rfl rfl rfl hb15 (by kernel_rfl) (by kernel_rfl) (by kernel_rfl) (fun _ _ _ h => h) .all ?_
            refine a_skiph (i := 8) rfl rfl rfl rfl rfl rfl hb15 (by kernel_rfl) (by kernel_rfl) (by kernel_rfl) (fun _ _ _ h => h) .all ?_
            refine a_skiph (i := 9) rfl rfl rfl rfl rfl rfl hb15 (by kernel_rfl) (by kernel_rfl) (by kernel_rfl) (fun _ _ _ h => h) .all ?_
            refine a_skiph (i := 10) rfl rfl rfl rfl rfl rfl hb15 (by kernel_rfl) (by kernel_rfl) (by kernel_rfl) (fun _ _ _ h => h) .all ?_
            refine a_skiph (i := 11) rfl rfl rfl rfl rfl rfl hb15 (by kernel_rfl) (by kernel_rfl) (by kernel_rfl) (fun _ _ _ h => h) .all ?_
            refine a_skiph (i := 12) rfl rfl rfl rfl rfl rfl hb15 (by kernel_rfl) (by kernel_rfl) (by kernel_rfl) (fun _ _ _ h => h) .all ?_
            refine a_skiph (i := 13) rfl rfl rfl rfl rfl rfl hb15 (by kernel_rfl) (by kernel_rfl) (by kernel_rfl) (fun _ _ _ h => h) .all ?_
            refine a_take (i := 14) rfl rfl rfl rfl (by kernel_rfl) (by kernel_rfl) (by kernel_rfl) (fun _ _ _ h => h) .all (r_pickfh rfl rfl hb15 rfl) ?_
            refine a_done (by kernel_rfl) ?_
            refine Then.slots (.cons (t := 0) rfl (.cons (t := 3) rfl (.cons (t := 6) rfl (.cons (t := 7) rfl (.cons (t := 8) rfl (.cons (t := 9) rfl (.cons (t := 58) rfl .nil))))))) ?_
            intro aa ww hL hH
            exact ⟨hL.sub (.cons (t := 0) rfl (.cons (t := 3) rfl (.cons (t := 6) rfl (.cons (t := 7) rfl (.cons (t := 8) rfl (.cons (t := 9) rfl (.eq (t := 58) rfl (by first | (simp [hb15]; done) | (simp only [hb15, Bool.true_and, Bool.false_and, Bool.true_or, Bool.false_or, Bool.and_true, Bool.and_false]; done)) .nil))))))), hH.hs (.seg .here (.cell .head (.seg .here (.seg .here (.cell .head (.cell .head .all))))))⟩
        rintro aa ww ⟨hL, hH⟩
        refine Then.run hL hH ?_
        clear hL hH aa ww
        refine t_cond rfl (fun c58 => ?_) (fun c58 => ?_)
        · skip
          refine t_seq ?_
          refine t_region ?_
          refine l_op rfl (o_val rfl rfl (r_move rfl rfl) ?_)
          refine l_op rfl (o_val rfl rfl (r_loadAgg rfl Try.isAgg48 Try.sizeOf48 rfl (List.mem_append_right _ List.mem_cons_self) (At.self _) rfl) ?_)
          refine l_op rfl (o_slice1 rfl rfl rfl rfl rfl Try.underlying32 Try.sizeOf48 Try.zeroValue48 rfl rfl (by omega) ?_)
          intro b16
          refine l_op rfl (o_appendS (enc := encFL) (xs := ls) (l := [(({ (⟨r.path, 0, r.seq, pa, ps.length, pc⟩ : File) with size := z } : File), ⟨z, r.seq, ps⟩)]) rfl rfl rfl rfl rfl Try.underlying32 Try.type48 rfl rfl rfl rfl (fun _ => rfl) (fun _ => rfl) ho (.tail .here) (sliceAt_one (enc := encFL) (a := (({ (⟨r.path, 0, r.seq, pa, ps.length, pc⟩ : File) with size := z } : File), ⟨z, r.seq, ps⟩)) rfl List.mem_cons_self) (by show (_ + _) * 56 ≤ _; (try simp only [List.length_nil, List.length_cons, List.length_append, List.length_map, List.length_take, endsL_length]); omega) (by (try simp only [List.length_nil, List.length_cons, List.length_append, List.length_map, List.length_take, endsL_length]); omega) ?_)
          intro v17 X17 ho17
          refine l_op rfl (o_val rfl rfl (r_assign rfl rfl) ?_)
          refine l_nil ?_
          refine e_next ?_
          refine t_region ?_
          refine l_op rfl (o_val rfl rfl (r_assign rfl rfl) ?_)
          refine l_nil ?_
          refine e_next ?_
          refine t_seq ?_
          refine t_draw (n := 11) .all rfl (by kernel_rfl) ?_
          refine a_take (i := 0) rfl rfl rfl rfl (by kernel_rfl) (by kernel_rfl) (by kernel_rfl) (fun _ _ _ h => h) .all (r_move rfl rfl) ?_
          refine a_take (i := 1) rfl rfl rfl rfl (by kernel_rfl) (by kernel_rfl) (by kernel_rfl) (fun _ _ _ h => h) .all (r_nilCheck rfl rfl) ?_
          refine a_take (i := 2) rfl rfl rfl rfl (by kernel_rfl) (by kernel_rfl) (by kernel_rfl) (fun _ _ _ h => h) .all (r_fieldAddr (k := 0) rfl rfl Try.underlying35 rfl Try.sizeOf32 rfl rfl) ?_
          refine a_take (i := 3) rfl rfl rfl rfl (by kernel_rfl) (by kernel_rfl) (by kernel_rfl) (fun _ _ _ h => h) .all (r_load (v := .slice a n c) rfl Try.isAgg32 rfl (List.mem_append_right _ (List.mem_cons_of_mem _ (List.mem_cons_of_mem _ (List.mem_append_right _ (List.mem_append_right _ (List.mem_cons_of_mem _ List.mem_cons_self)))))) rfl) ?_
          refine a_take (i := 4) rfl rfl rfl rfl (by kernel_rfl) (by kernel_rfl) (by kernel_rfl) (fun _ _ _ h => h) .all (r_move rfl rfl) ?_
          refine a_take (i := 5) rfl rfl rfl rfl (by kernel_rfl) (by kernel_rfl) (by kernel_rfl) (fun _ _ _ h => h) .all (r_indexAddr rfl rfl ha14 rfl Try.underlying32 Try.sizeOf48 (by omega) (by omega)) ?_
          refine a_take (i := 6) rfl rfl rfl rfl (by kernel_rfl) (by kernel_rfl) (by kernel_rfl) (fun _ _ _ h => h) .all (r_fieldAddr (k := 0) rfl rfl Try.underlying48 rfl Try.sizeOf9 rfl rfl) ?_
          refine a_take (i := 7) rfl rfl rfl rfl (by kernel_rfl) (by kernel_rfl) (by kernel_rfl) (fun _ _ _ h => h) .all (r_load (v := .string f1.1.path) rfl Try.isAgg9 rfl ((fun p hp => (List.mem_append_right _ (List.mem_cons_of_mem _ (List.mem_cons_of_mem _ (List.mem_append_right _ (List.mem_append_right _ (List.mem_cons_of_mem _ (List.mem_cons_of_mem _ (hD _ hp))))))))) _ hm14) (At.get (Row.elem hr14 hx1) (j := 0) rfl)) ?_
          refine a_take (i := 8) rfl rfl rfl rfl (by kernel_rfl) (by kernel_rfl) (by kernel_rfl) (fun _ _ _ h => h) .all (r_fieldAddr (k := 36) rfl rfl Try.underlying46 rfl Try.sizeOf9 rfl rfl) ?_
          refine a_take (i := 9) rfl rfl rfl rfl (by kernel_rfl) (by kernel_rfl) (by kernel_rfl) (fun _ _ _ h => h) .all (r_load (v := .string r.path) rfl Try.isAgg9 rfl (List.mem_append_right _ (List.mem_cons_of_mem _ (List.mem_cons_of_mem _ (List.mem_append_right _ (List.mem_append_right _ List.mem_cons_self))))) rfl) ?_
          refine a_take (i := 10) rfl rfl rfl rfl (by kernel_rfl) (by kernel_rfl) (by kernel_rfl) (fun _ _ _ h => h) .all (r_sne rfl rfl rfl) ?_
          refine a_done (by kernel_rfl) ?_
          refine Then.slots (.cons (t := 0) rfl (.cons (t := 3) rfl (.cons (t := 6) rfl (.cons (t := 7) rfl (.cons (t := 8) rfl (.cons (t := 9) rfl (.cons (t := 73) rfl .nil))))))) ?_
          refine e_next ?_
          refine t_dec rfl (fun c73 => ?_) (fun c73 => ?_)
          · skip
            refine t_region ?_
            refine l_op rfl (o_val rfl rfl (r_move rfl rfl) ?_)
            refine l_op rfl (o_val rfl rfl (r_move rfl rfl) ?_)
            refine l_op rfl (o_val rfl rfl (r_nilCheck rfl rfl) ?_)
            refine l_op rfl (o_val rfl rfl (r_fieldAddr (k := 0) rfl rfl Try.underlying35 rfl Try.sizeOf32 rfl rfl) ?_)
            refine l_op rfl (o_val rfl rfl (r_load (v := .slice a n c) rfl Try.isAgg32 rfl (List.mem_append_right _ (List.mem_cons_of_mem _ (List.mem_cons_of_mem _ (List.mem_append_right _ (List.mem_append_right _ (List.mem_cons_of_mem _ List.mem_cons_self)))))) rfl) ?_)
            refine l_op rfl (o_val rfl rfl (r_move rfl rfl) ?_)
            refine l_op rfl (o_val rfl rfl (r_indexAddr rfl rfl ha14 rfl Try.underlying32 Try.sizeOf48 (by omega) (by omega)) ?_)
            refine l_op rfl (o_val rfl rfl (r_loadAgg rfl Try.isAgg48 Try.sizeOf48 rfl ((fun p hp => (List.mem_append_right _ (List.mem_cons_of_mem _ (List.mem_cons_of_mem _ (List.mem_append_right _ (List.mem_append_right _ (List.mem_cons_of_mem _ (List.mem_cons_of_mem _ (hD _ hp))))))))) _ hm14) (Row.elem hr14 hx1) rfl) ?_)
            refine l_op rfl (o_slice1 rfl rfl rfl rfl rfl Try.underlying32 Try.sizeOf48 Try.zeroValue48 rfl rfl (by omega) ?_)
            intro b18
            refine l_op rfl (o_appendS (enc := encFL) (xs := (ls ++ [(({ (⟨r.path, 0, r.seq, pa, ps.length, pc⟩ : File) with size := z } : File), ⟨z, r.seq, ps⟩)])) (l := [(f1.1, f1.2)]) rfl rfl rfl rfl rfl Try.underlying32 Try.type48 rfl rfl rfl rfl (fun _ => rfl) (fun _ => rfl) ho17 (.tail .here) (sliceAt_one (enc := encFL) (a := (f1.1, f1.2)) rfl List.mem_cons_self) (by show (_ + _) * 56 ≤ _; (try simp only [List.length_nil, List.length_cons, List.length_append, List.length_map, List.length_take, endsL_length]); omega) (by (try simp only [List.length_nil, List.length_cons, List.length_append, List.length_map, List.length_take, endsL_length]); omega) ?_)
            intro v19 X19 ho19
            refine l_op rfl (o_val rfl rfl (r_assign rfl rfl) ?_)
            refine l_nil ?_
            refine e_block _ ?_
            refine e_next ?_
            refine t_region ?_
            refine l_op rfl (o_val rfl rfl (r_move rfl rfl) ?_)
            refine l_op rfl (o_val rfl rfl (r_add rfl rfl rfl (by omega) (by omega)) ?_)
            refine l_op rfl (o_val rfl rfl (r_assign rfl rfl) ?_)
            refine l_nil ?_
            intro aa ww hL hH
            exact ⟨_, by omega, i + 1, true, v19, _, X19, rfl, by omega, by omega, ho19, (RepAll.snoc (RepAll.snoc hrs (hfr (hpk (by cases pt; rfl; simp at c58)))) (FRep.mono hrepf1 (fun p hp => List.mem_append_right _ hp))), (by have h := ins_step hins hx1; rw [c58] at h; rw [show (i + 1).toNat = i.toNat + 1 by omega]; simpa [RL, c73] using h), (fun h => absurd h (by decide)), (by (try simp only [List.length_append, List.length_cons, List.length_nil]); omega), hL.sub (.cons (t := 0) rfl (.cons (t := 3) rfl (.cons (t := 6) rfl (.cons (t := 7) rfl (.cons (t := 8) rfl (.cons (t := 9) rfl .nil)))))), hH.hs (.seg .here (.cell (.tail (.tail .head)) (.seg (.tail (.tail .here)) (.seg (.tail (.tail .here)) (.cell (.tail (.tail .head)) (.cell (.tail (.tail .head)) (.drop (.drop .all))))))))⟩
          · skip
            refine t_skip ?_
            refine e_block _ ?_
            refine e_next ?_
            refine t_region ?_
            refine l_op rfl (o_val rfl rfl (r_move rfl rfl) ?_)
            refine l_op rfl (o_val rfl rfl (r_add rfl rfl rfl (by omega) (by omega)) ?_)
            refine l_op rfl (o_val rfl rfl (r_assign rfl rfl) ?_)
            refine l_nil ?_
            intro aa ww hL hH
            exact ⟨_, by omega, i + 1, true, v17, _, X17, rfl, by omega, by omega, ho17, (RepAll.snoc hrs (hfr (hpk (by cases pt; rfl; simp at c58)))), (by have h := ins_step hins hx1; rw [c58] at h; rw [show (i + 1).toNat = i.toNat + 1 by omega]; simpa [RL, c73] using h), (fun h => absurd h (by decide)), (by (try simp only [List.length_append, List.length_cons, List.length_nil]); omega), hL.sub (.cons (t := 0) rfl (.cons (t := 3) rfl (.cons (t := 6) rfl (.cons (t := 7) rfl (.cons (t := 8) rfl (.cons (t := 9) rfl .nil)))))), hH.hs (.seg .here (.cell (.tail .head) (.seg (.tail .here) (.seg (.tail .here) (.cell (.tail .head) (.cell (.tail .head) (.drop .all)))))))⟩
        · skip
          refine t_skip ?_
          refine e_next ?_
          refine t_seq ?_
          refine t_draw (n := 11) .all rfl (by kernel_rfl) ?_
          refine a_take (i := 0) rfl rfl rfl rfl (by kernel_rfl) (by kernel_rfl) (by kernel_rfl) (fun _ _ _ h => h) .all (r_move rfl rfl) ?_
          refine a_take (i := 1) rfl rfl rfl rfl (by kernel_rfl) (by kernel_rfl) (by kernel_rfl) (fun _ _ _ h => h) .all (r_nilCheck rfl rfl) ?_
          refine a_take (i := 2) rfl rfl rfl rfl (by kernel_rfl) (by kernel_rfl) (by kernel_rfl) (fun _ _ _ h => h) .all (r_fieldAddr (k := 0) rfl rfl Try.underlying35 rfl Try.sizeOf32 rfl rfl) ?_
          refine a_take (i := 3) rfl rfl rfl rfl (by kernel_rfl) (by kernel_rfl) (by kernel_rfl) (fun _ _ _ h => h) .all (r_load (v := .slice a n c) rfl Try.isAgg32 rfl (List.mem_append_right _ (List.mem_cons_of_mem _ (List.mem_append_right _ (List.mem_append_right _ (List.mem_cons_of_mem _ List.mem_cons_self))))) rfl) ?_
          refine a_take (i := 4) rfl rfl rfl rfl (by kernel_rfl) (by kernel_rfl) (by kernel_rfl) (fun _ _ _ h => h) .all (r_move rfl rfl) ?_
          refine a_take (i := 5) rfl rfl rfl rfl (by kernel_rfl) (by kernel_rfl) (by kernel_rfl) (fun _ _ _ h => h) .all (r_indexAddr rfl rfl ha14 rfl Try.underlying32 Try.sizeOf48 (by omega) (by omega)) ?_
          refine a_take (i := 6) rfl rfl rfl rfl (by kernel_rfl) (by kernel_rfl) (by kernel_rfl) (fun _ _ _ h => h) .all (r_fieldAddr (k := 0) rfl rfl Try.underlying48 rfl Try.sizeOf9 rfl rfl) ?_
          refine a_take (i := 7) rfl rfl rfl rfl (by kernel_rfl) (by kernel_rfl) (by kernel_rfl) (fun _ _ _ h => h) .all (r_load (v := .string f1.1.path) rfl Try.isAgg9 rfl ((fun p hp => (List.mem_append_right _ (List.mem_cons_of_mem _ (List.mem_append_right _ (List.mem_append_right _ (List.mem_cons_of_mem _ (List.mem_cons_of_mem _ (hD _ hp)))))))) _ hm14) (At.get (Row.elem hr14 hx1) (j := 0) rfl)) ?_
          refine a_take (i := 8) rfl rfl rfl rfl (by kernel_rfl) (by kernel_rfl) (by kernel_rfl) (fun _ _ _ h => h) .all (r_fieldAddr (k := 36) rfl rfl Try.underlying46 rfl Try.sizeOf9 rfl rfl) ?_
          refine a_take (i := 9) rfl rfl rfl rfl (by kernel_rfl) (by kernel_rfl) (by kernel_rfl) (fun _ _ _ h => h) .all (r_load (v := .string r.path) rfl Try.isAgg9 rfl (List.mem_append_right _ (List.mem_cons_of_mem _ (List.mem_append_right _ (List.mem_append_right _ List.mem_cons_self)))) rfl) ?_
          refine a_take (i := 10) rfl rfl rfl rfl (by kernel_rfl) (by kernel_rfl) (by kernel_rfl) (fun _ _ _ h => h) .all (r_sne rfl rfl rfl) ?_
          refine a_done (by kernel_rfl) ?_
          refine e_next ?_
          refine t_dec rfl (fun c73 => ?_) (fun c73 => ?_)
          · skip
            refine t_region ?_
            refine l_op rfl (o_val rfl rfl (r_move rfl rfl) ?_)
            refine l_op rfl (o_val rfl rfl (r_move rfl rfl) ?_)
            refine l_op rfl (o_val rfl rfl (r_nilCheck rfl rfl) ?_)
            refine l_op rfl (o_val rfl rfl (r_fieldAddr (k := 0) rfl rfl Try.underlying35 rfl Try.sizeOf32 rfl rfl) ?_)
            refine l_op rfl (o_val rfl rfl (r_load (v := .slice a n c) rfl Try.isAgg32 rfl (List.mem_append_right _ (List.mem_cons_of_mem _ (List.mem_append_right _ (List.mem_append_right _ (List.mem_cons_of_mem _ List.mem_cons_self))))) rfl) ?_)
            refine l_op rfl (o_val rfl rfl (r_move rfl rfl) ?_)
            refine l_op rfl (o_val rfl rfl (r_indexAddr rfl rfl ha14 rfl Try.underlying32 Try.sizeOf48 (by omega) (by omega)) ?_)
            refine l_op rfl (o_val rfl rfl (r_loadAgg rfl Try.isAgg48 Try.sizeOf48 rfl ((fun p hp => (List.mem_append_right _ (List.mem_cons_of_mem _ (List.mem_append_right _ (List.mem_append_right _ (List.mem_cons_of_mem _ (List.mem_cons_of_mem _ (hD _ hp)))))))) _ hm14) (Row.elem hr14 hx1) rfl) ?_)
            refine l_op rfl (o_slice1 rfl rfl rfl rfl rfl Try.underlying32 Try.sizeOf48 Try.zeroValue48 rfl rfl (by omega) ?_)
            intro b20
            refine l_op rfl (o_appendS (enc := encFL) (xs := ls) (l := [(f1.1, f1.2)]) rfl rfl rfl rfl rfl Try.underlying32 Try.type48 rfl rfl rfl rfl (fun _ => rfl) (fun _ => rfl) ho (.tail .here) (sliceAt_one (enc := encFL) (a := (f1.1, f1.2)) rfl List.mem_cons_self) (by show (_ + _) * 56 ≤ _; (try simp only [List.length_nil, List.length_cons, List.length_append, List.length_map, List.length_take, endsL_length]); omega) (by (try simp only [List.length_nil, List.length_cons, List.length_append, List.length_map, List.length_take, endsL_length]); omega) ?_)
            intro v21 X21 ho21
            refine l_op rfl (o_val rfl rfl (r_assign rfl rfl) ?_)
            refine l_nil ?_
            refine Then.slots (.cons (t := 0) rfl (.cons (t := 3) rfl (.cons (t := 6) rfl (.cons (t := 7) rfl (.cons (t := 8) rfl (.cons (t := 9) rfl .nil)))))) ?_
            refine e_block _ ?_
            refine e_next ?_
            refine t_region ?_
            refine l_op rfl (o_val rfl rfl (r_move rfl rfl) ?_)
            refine l_op rfl (o_val rfl rfl (r_add rfl rfl rfl (by omega) (by omega)) ?_)
            refine l_op rfl (o_val rfl rfl (r_assign rfl rfl) ?_)
            refine l_nil ?_
            intro aa ww hL hH
            exact ⟨_, by omega, i + 1, pt, v21, _, X21, rfl, by omega, by omega, ho21, (RepAll.snoc hrs (FRep.mono hrepf1 (fun p hp => List.mem_append_right _ hp))), (by have h := ins_step hins hx1; rw [c58] at h; rw [show (i + 1).toNat = i.toNat + 1 by omega]; simpa [RL, c73] using h), hpk, (by (try simp only [List.length_append, List.length_cons, List.length_nil]); omega), hL.sub (.cons (t := 0) rfl (.cons (t := 3) rfl (.cons (t := 6) rfl (.cons (t := 7) rfl (.cons (t := 8) rfl (.cons (t := 9) rfl .nil)))))), hH.hs (.seg .here (.cell (.tail .head) (.seg (.tail .here) (.seg (.tail .here) (.cell (.tail .head) (.cell (.tail .head) (.drop .all)))))))⟩
          · skip
            refine t_skip ?_
            refine e_block _ ?_
            refine e_next ?_
            refine t_region ?_
            refine l_op rfl (o_val rfl rfl (r_move rfl rfl) ?_)
            refine l_op rfl (o_val rfl rfl (r_add rfl rfl rfl (by omega) (by omega)) ?_)
            refine l_op rfl (o_val rfl rfl (r_assign rfl rfl) ?_)
            refine l_nil ?_
            intro aa ww hL hH
            exact ⟨_, by omega, i + 1, pt, vo, _, Xo, rfl, by omega, by omega, ho, hrs, (by have h := ins_step hins hx1; rw [c58] at h; rw [show (i + 1).toNat = i.toNat + 1 by omega]; simpa [RL, c73] using h), hpk, (by (try simp only [List.length_append, List.length_cons, List.length_nil]); omega), hL.sub (.cons (t := 0) rfl (.cons (t := 3) rfl (.cons (t := 6) rfl (.cons (t := 7) rfl (.cons (t := 8) rfl (.cons (t := 9) rfl .nil)))))), hH.hs (.seg .here (.cell .head (.seg .here (.seg .here (.cell .head (.cell .head .all))))))⟩
      · skip
        refine t_exit ?_
        refine e_pass_exit ?_
        refine e_pass_exit ?_
        refine e_block_here ?_
        refine e_next ?_
        refine t_seq ?_
        refine t_seq ?_
        refine t_region ?_
        refine l_op rfl (o_val rfl rfl (r_move rfl rfl) ?_)
        refine l_op rfl (o_val rfl rfl (r_not rfl rfl) ?_)
        refine l_nil ?_
        refine e_next ?_
        refine t_cond rfl (fun c85 => ?_) (fun c85 => ?_)
        · skip
          try simp only [Bool.or_eq_true, Bool.and_eq_true, decide_eq_true_eq, Bool.not_eq_true', decide_eq_false_iff_not] at c85
          refine t_region ?_
          refine l_op rfl (o_val rfl rfl (r_move rfl rfl) ?_)
          refine l_op rfl (o_val rfl rfl (r_loadAgg rfl Try.isAgg48 Try.sizeOf48 rfl (List.mem_append_right _ List.mem_cons_self) (At.self _) rfl) ?_)
          refine l_op rfl (o_slice1 rfl rfl rfl rfl rfl Try.underlying32 Try.sizeOf48 Try.zeroValue48 rfl rfl (by omega) ?_)
          intro b22
          refine l_op rfl (o_appendS (enc := encFL) (xs := ls) (l := [(({ (⟨r.path, 0, r.seq, pa, ps.length, pc⟩ : File) with size := z } : File), ⟨z, r.seq, ps⟩)]) rfl rfl rfl rfl rfl Try.underlying32 Try.type48 rfl rfl rfl rfl (fun _ => rfl) (fun _ => rfl) ho (.tail .here) (sliceAt_one (enc := encFL) (a := (({ (⟨r.path, 0, r.seq, pa, ps.length, pc⟩ : File) with size := z } : File), ⟨z, r.seq, ps⟩)) rfl List.mem_cons_self) (by show (_ + _) * 56 ≤ _; (try simp only [List.length_nil, List.length_cons, List.length_append, List.length_map, List.length_take, endsL_length]); omega) (by (try simp only [List.length_nil, List.length_cons, List.length_append, List.length_map, List.length_take, endsL_length]); omega) ?_)
          intro v23 X23 ho23
          refine l_op rfl (o_val rfl rfl (r_assign rfl rfl) ?_)
          refine l_nil ?_
          refine e_next ?_
          refine t_seq ?_
          try rw [List.nil_append] at ho23
          obtain ⟨a24, c24, rfl, hs24⟩ := ho23.at
          refine t_region ?_
          refine l_op rfl (o_val rfl rfl (r_move rfl rfl) ?_)
          refine l_op rfl (o_val rfl rfl (r_move rfl rfl) ?_)
          refine l_op rfl (o_val rfl rfl (r_nilCheck rfl rfl) ?_)
          refine l_op rfl (o_val rfl rfl (r_fieldAddr (k := 0) rfl rfl Try.underlying35 rfl Try.sizeOf32 rfl rfl) ?_)
          refine l_op rfl (o_store rfl rfl rfl rfl rfl Try.sizeOf32 (.app (.tail (.tail (.app (.app (.tail .head)))))) rfl ?_)
          refine l_nil ?_
          refine Then.slots .nil ?_
          refine e_next ?_
          refine t_seq ?_
          refine t_region ?_
          refine l_op rfl (o_val rfl rfl (r_assign rfl rfl) ?_)
          refine l_nil ?_
          refine e_next ?_
          refine t_ret ?_
          refine Then.mem (.seg (.tail .here) (.cell (.tail .head) (.cell (.tail .head) (.seg (.tail .here) (.seg (.tail .here) (.cell (.tail .head) (.cell .head .all))))))) ?_
          exact e_ret rfl (.tmp rfl .nil) ⟨_, _, _, _, _, congrArg (Value.int .i64) (Decidable.not_not.1 c14).symm, (PreL.eq (.app (.cons (.cons (.app (.app (.cons .refl))))))), SliceAt.mono hs24 (fun p hp => (List.mem_append_left _ (List.mem_append_left _ hp))), RepAll.mono (RepAll.snoc hrs (hfr (hpk (by cases pt; rfl; simp at c85)))) (ds_app (fun p hp => (List.mem_append_left _ (List.mem_append_right _ (List.mem_cons_of_mem _ (List.mem_cons_of_mem _ (List.mem_append_left _ hp)))))) (fun p hp => List.mem_append_right _ hp)), (by rw [rapply_eq c14 hzk, ← hins, List.drop_eq_nil_of_le (by omega : fl.length ≤ i.toNat)]; cases pt <;> simp_all [RL, insGo])⟩
        · skip
          try simp only [Bool.or_eq_false_iff, Bool.and_eq_false_iff, decide_eq_false_iff_not, Bool.not_eq_false', decide_eq_true_eq] at c85
          refine t_skip ?_
          refine e_next ?_
          refine t_seq ?_
          try rw [List.nil_append] at ho
          obtain ⟨a25, c25, rfl, hs25⟩ := ho.at
          refine t_region ?_
          refine l_op rfl (o_val rfl rfl (r_move rfl rfl) ?_)
          refine l_op rfl (o_val rfl rfl (r_move rfl rfl) ?_)
          refine l_op rfl (o_val rfl rfl (r_nilCheck rfl rfl) ?_)
          refine l_op rfl (o_val rfl rfl (r_fieldAddr (k := 0) rfl rfl Try.underlying35 rfl Try.sizeOf32 rfl rfl) ?_)
          refine l_op rfl (o_store rfl rfl rfl rfl rfl Try.sizeOf32 (.app (.tail (.app (.app (.tail .head))))) rfl ?_)
          refine l_nil ?_
          refine e_next ?_
          refine t_seq ?_
          refine t_region ?_
          refine l_op rfl (o_val rfl rfl (r_assign rfl rfl) ?_)
          refine l_nil ?_
          refine e_next ?_
          refine t_ret ?_
          refine Then.mem (.seg (.tail .here) (.cell (.tail .head) (.seg (.tail .here) (.seg (.tail .here) (.cell (.tail .head) (.cell .head .all)))))) ?_
          exact e_ret rfl (.tmp rfl .nil) ⟨_, _, _, _, _, congrArg (Value.int .i64) (Decidable.not_not.1 c14).symm, (PreL.eq (.app (.cons (.app (.app (.cons .refl)))))), SliceAt.mono hs25 (fun p hp => (List.mem_append_left _ (List.mem_append_left _ hp))), RepAll.mono hrs (ds_app (fun p hp => (List.mem_append_left _ (List.mem_append_right _ (List.mem_cons_of_mem _ (List.mem_append_left _ hp))))) (fun p hp => List.mem_append_right _ hp)), (by rw [rapply_eq c14 hzk, ← hins, List.drop_eq_nil_of_le (by omega : fl.length ≤ i.toNat)]; cases pt <;> simp_all [RL, insGo])⟩

set_option maxRecDepth 100000 in
theorem rof_c {E : Env} {H D : Heap} (hD : ∀ p, p ∈ D → p ∈ H) {a : Option Addr} {n c : Nat} {rl : List RP2} (hrl : SliceAt D encRecP 38 a n c rl) (hrc : RecsAt D rl) (hn : n ≤ 1000) :
    Fn Try.prog 9 [.slice a n c] E H (fun v H2 => (∃ (k : Nat) (lm : LMap) (x : RP2) (X : Heap), runR [] (rl.take k) = some lm ∧ rl[k]? = some x ∧ mayL lm x.1 x.2 ≠ 0 ∧ v = .tuple #[.pointer none, .int .i64 k, .int .i64 (mayL lm x.1 x.2)] ∧ H2 = X ++ H) ∨ (∃ (b : Nat) (X : Heap) (fa : Option Addr) (fn fc : Nat) (fl : List (File × FileL)), runR [] rl = some (RL fl) ∧ v = .tuple #[.pointer (some ⟨b, 0, none⟩), .int .i64 n, .int .i64 0] ∧ H2 = X ++ ((b, .cells ([.slice fa fn fc] : List Value).toArray 35 (0, 0)) :: H) ∧ SliceAt (X ++ D) encFL 4 fa fn fc fl ∧ RepAll (X ++ D) fl)) := by
  have hln := hrl.len
  refine Fn.of_body (N := 29) Try.func9 rfl rfl rfl ?_
  refine t_seq ?_
  refine t_region ?_
  refine l_op rfl (o_val rfl rfl (r_assign rfl rfl) ?_)
  refine l_op rfl (o_val rfl rfl (r_assign rfl rfl) ?_)
  refine l_op rfl (o_val rfl rfl (r_assign rfl rfl) ?_)
  refine l_nil ?_
  refine e_next ?_
  refine t_seq ?_
  refine t_region ?_
  refine l_op rfl (o_val rfl rfl (r_build (cells := [.slice none 0 0]) rfl rfl (by kernel_rfl)) ?_)
  refine l_op rfl (o_box rfl rfl rfl rfl rfl ?_)
  intro b1
  refine l_op rfl (o_val rfl rfl (r_assign rfl rfl) ?_)
  refine l_nil ?_
  refine e_next ?_
  refine t_seq ?_
  refine t_seq ?_
  refine t_region ?_
  refine l_op rfl (o_val rfl rfl (r_assign rfl rfl) ?_)
  refine l_nil ?_
  refine e_next ?_
  refine t_block ?_
  refine t_loop (fun (mz : Nat) aa ww => ∃ (k : Int) (fa : Option Addr) (fn : Nat) (fc : Nat) (fl : List (File × FileL)) (X : Heap), mz = (n - k.toNat) ∧ (0 ≤ k) ∧ (k ≤ n) ∧ (SliceAt (X ++ D) encFL 4 fa fn fc fl) ∧ (RepAll (X ++ D) fl) ∧ (runR [] (rl.take k.toNat) = some (RL fl)) ∧ (fn ≤ k.toNat) ∧ Sl 29 [(0, .slice a n c), (5, .pointer (some ⟨b1, 0, none⟩)), (6, .int .i64 (k))] aa ∧ Holds E (X ++ ((b1, .cells ([.slice fa fn fc]).toArray 35 (0, 0)) :: H)) ww) (n) ?_ ?_
  · intro aa ww hL hH
    exact ⟨0, none, 0, 0, [], [], rfl, by omega, by omega, .nil, (fun x hx => by cases hx), rfl, Nat.le_refl _, hL.sub (.cons (t := 0) rfl (.cons (t := 5) rfl (.cons (t := 6) rfl .nil))), hH.hs (.seg (S := []) .here (.cell .head .all))⟩
  · skip
    rintro mz aa ww ⟨k, fa, fn, fc, fl, X, hmz, h0, h1, hfl, hra, hrun, hfn, hL, hH⟩
    refine Then.run hL hH ?_
    clear hL hH aa ww
    refine t_seq ?_
    refine t_seq ?_
    refine t_region ?_
    refine l_op rfl (o_val rfl rfl (r_move rfl rfl) ?_)
    refine l_op rfl (o_val rfl rfl (r_move rfl rfl) ?_)
    refine l_op rfl (o_val rfl rfl (r_len rfl rfl Try.underlying22) ?_)
    refine l_op rfl (o_val rfl rfl (r_lt rfl rfl rfl) ?_)
    refine l_nil ?_
    refine e_next ?_
    refine t_dec rfl (fun c13 => ?_) (fun c13 => ?_)
    · skip
      refine t_skip ?_
      refine e_next ?_
      refine t_seq ?_
      refine t_block ?_
      refine t_seq ?_
      refine t_region ?_
      refine l_op rfl (o_val rfl rfl (r_move rfl rfl) ?_)
      refine l_op rfl (o_val rfl rfl (r_move rfl rfl) ?_)
      refine l_op rfl (o_val rfl rfl (r_move rfl rfl) ?_)
      obtain ⟨b2, o2, cs2, T2, f2, ha2, hm2, hr2⟩ := SliceAt.opn hrl (by omega)
      obtain ⟨x1, hx1⟩ : ∃ x, rl[Int.toNat (k)]? = some x := getSome (by have := hrl.len; omega)
      have hpsx1 := hrc x1 (List.mem_of_getElem? hx1)
      refine l_op rfl (o_val rfl rfl (r_indexAddr rfl rfl ha2 rfl Try.underlying22 Try.sizeOf46 (by omega) (by omega)) ?_)
      refine l_op rfl (o_val rfl rfl (r_loadAgg rfl Try.isAgg46 Try.sizeOf46 rfl ((fun p hp => (List.mem_append_right _ (List.mem_cons_of_mem _ (hD _ hp)))) _ hm2) (Row.elem hr2 hx1) rfl) ?_)
      refine Then.mem (.cell (.app .head) .all) ?_
      refine l_op rfl (o_call rfl rfl rfl Try.call19 rfl (rapply_c (r := x1.1) (D := (X ++ D)) (ds_app (fun p hp => (List.mem_append_left _ hp)) (fun p hp => (List.mem_append_right _ (hD _ hp)))) (SliceAt.mono hfl (fun p hp => hp)) (RepAll.mono hra (fun p hp => hp)) (by omega) (SliceAt.mono hpsx1 (fun p hp => (List.mem_append_right _ hp)))) ?_)
      rintro _ _ ⟨X3, a3, n3, c3, fl3, rfl, rfl, hfl3, hra3, hrl3⟩
      refine l_op rfl (o_val rfl rfl (r_assign rfl rfl) ?_)
      refine l_nil ?_
      refine e_next ?_
      refine t_seq ?_
      refine t_region ?_
      refine l_op rfl (o_val rfl rfl (r_move rfl rfl) ?_)
      refine l_op rfl (o_val rfl rfl (r_ne rfl rfl rfl) ?_)
      refine l_nil ?_
      refine e_next ?_
      refine t_dec rfl (fun c23 => ?_) (fun c23 => ?_)
      · skip
        refine t_seq ?_
        refine t_region ?_
        refine l_op rfl (o_val rfl rfl (r_move rfl rfl) ?_)
        refine l_op rfl (o_val rfl rfl (r_move rfl rfl) ?_)
        refine l_op rfl (o_val rfl rfl (r_assign rfl rfl) ?_)
        refine l_op rfl (o_val rfl rfl (r_assign rfl rfl) ?_)
        refine l_op rfl (o_val rfl rfl (r_assign rfl rfl) ?_)
        refine l_nil ?_
        refine e_next ?_
        refine t_ret ?_
        refine e_block_ret ?_
        refine e_pass_ret ?_
        refine e_pass_ret ?_
        refine e_block_ret ?_
        refine e_pass_ret ?_
        exact e_ret rfl (.tmp rfl (.tmp rfl (.tmp rfl .nil))) (.inl ⟨k.toNat, _, x1, _, hrun, hx1, c23, by rw [Int.toNat_of_nonneg h0]; rfl, (PreL.eq (.app (.cons (.app .refl))))⟩)
      · skip
        refine t_skip ?_
        refine e_block _ ?_
        refine e_next ?_
        refine t_region ?_
        refine l_op rfl (o_val rfl rfl (r_move rfl rfl) ?_)
        refine l_op rfl (o_val rfl rfl (r_add rfl rfl rfl (by omega) (by omega)) ?_)
        refine l_op rfl (o_val rfl rfl (r_assign rfl rfl) ?_)
        refine l_nil ?_
        intro aa ww hL hH
        exact ⟨_, by omega, k + 1, a3, n3, c3, fl3, X3 ++ X, rfl, by omega, by omega, (by simpa using hfl3), (by simpa using hra3), (by rw [show (k + 1).toNat = k.toNat + 1 by omega, runR_step hrun hx1 (Decidable.not_not.1 c23), hrl3]), (by have h1 := rapplyL_len (m := RL fl) (r := x1.1) (ps := x1.2); rw [← hrl3, RL_length, RL_length] at h1; have := hfl3.len; have := hfl.len; omega), hL.sub (.cons (t := 0) rfl (.cons (t := 5) rfl (.cons (t := 6) rfl .nil))), hH.hs (.assoc (.seg .here (.seg (.tail .here) (.cell .head .all))))⟩
    · skip
      refine t_exit ?_
      refine e_pass_exit ?_
      refine e_pass_exit ?_
      refine e_block_here ?_
      refine e_next ?_
      refine t_seq ?_
      refine t_region ?_
      refine l_op rfl (o_val rfl rfl (r_move rfl rfl) ?_)
      refine l_op rfl (o_val rfl rfl (r_move rfl rfl) ?_)
      refine l_op rfl (o_val rfl rfl (r_len rfl rfl Try.underlying22) ?_)
      refine l_op rfl (o_val rfl rfl (r_assign rfl rfl) ?_)
      refine l_op rfl (o_val rfl rfl (r_assign rfl rfl) ?_)
      refine l_op rfl (o_val rfl rfl (r_assign rfl rfl) ?_)
      refine l_nil ?_
      refine e_next ?_
      refine t_ret ?_
      refine Then.mem (.seg .here (.cell .head .all)) ?_
      exact e_ret rfl (.tmp rfl (.tmp rfl (.tmp rfl .nil))) (.inr ⟨b1, _, _, _, _, _, (by rw [← hrun, List.take_of_length_le (by omega)]), rfl, (PreL.eq (.app .refl)), hfl.mono (ds_app (fun p hp => (List.mem_append_left _ (List.mem_append_left _ hp))) (fun p hp => List.mem_append_right _ hp)), hra.mono (ds_app (fun p hp => (List.mem_append_left _ (List.mem_append_left _ hp))) (fun p hp => List.mem_append_right _ hp))⟩)

set_option maxRecDepth 100000 in
theorem few_c {E : Env} {H D : Heap} (hD : ∀ p, p ∈ D → p ∈ H) {a : Option Addr} {n c : Nat} {rl : List RP2} (hrl : SliceAt D encRecP 38 a n c rl) (hra : RecsAt D rl) (hn : n ≤ 9223372036854775807) :
    Fn Try.prog 7 [.slice a n c] E H (fun v H2 => ∃ a2 n2 c2 X rl2, v = .slice a2 n2 c2 ∧ H2 = X ++ H ∧ SliceAt (X ++ D) encRecP 38 a2 n2 c2 rl2 ∧ RecsAt (X ++ D) rl2 ∧ n2 ≤ 25) := by
  have hln := hrl.len
  refine Fn.of_body (N := 41) Try.func7 rfl rfl rfl ?_
  refine t_seq ?_
  refine t_region ?_
  refine l_op rfl (o_val rfl rfl (r_assign rfl rfl) ?_)
  refine l_nil ?_
  refine e_next ?_
  refine t_seq ?_
  refine t_region ?_
  refine l_op rfl (o_val rfl rfl (r_assign rfl rfl) ?_)
  refine l_nil ?_
  refine e_next ?_
  refine t_seq ?_
  refine t_seq ?_
  refine t_region ?_
  refine l_op rfl (o_val rfl rfl (r_assign rfl rfl) ?_)
  refine l_nil ?_
  refine e_next ?_
  refine t_block ?_
  refine t_loop (fun (mz : Nat) aa ww => ∃ (k : Int) (vo : Value) (ls : List RP2) (Xo : Heap), mz = (25 - k.toNat) ∧ (0 ≤ k) ∧ (k ≤ 25) ∧ (Own 38 46 vo (ls.map encRecP) Xo) ∧ (RecsAt D ls) ∧ (ls.length = k.toNat) ∧ Sl 41 [(0, .slice a n c), (3, vo), (4, .int .i64 (k))] aa ∧ Holds E (Xo ++ H) ww) (25) ?_ ?_
  · intro aa ww hL hH
    exact ⟨0, .slice none 0 0, [], [], rfl, by omega, by omega, Own.nil _ _, (fun x hx => by cases hx), rfl, hL.sub (.cons (t := 0) rfl (.cons (t := 3) rfl (.cons (t := 4) rfl .nil))), hH.hs (.seg (S := []) .here .all)⟩
  · skip
    rintro mz aa ww ⟨k, vo, ls, Xo, hmz, h0, h1, ho, hrs, hll, hL, hH⟩
    refine Then.run hL hH ?_
    clear hL hH aa ww
    refine t_seq ?_
    refine t_cut (fun aa ww => Sl 41 [(0, .slice a n c), (3, vo), (4, .int .i64 (k)), (13, .bool ((decide (k < (n : Int)) && decide (k < 25))))] aa ∧ Holds E (Xo ++ H) ww) ?_ ?_
    · skip
      refine t_region ?_
      refine l_op rfl (o_val rfl rfl (r_move rfl rfl) ?_)
      refine l_op rfl (o_val rfl rfl (r_move rfl rfl) ?_)
      refine l_op rfl (o_val rfl rfl (r_len rfl rfl Try.underlying22) ?_)
      refine l_op rfl (o_val rfl rfl (r_lt rfl rfl rfl) ?_)
      refine l_op rfl (o_val rfl rfl (r_move rfl rfl) ?_)
      refine t_bool (decide (k < (n : Int))) (fun hb1 => ?_) (fun hb1 => ?_)
      · skip
        have phb1 := of_decide_eq_true hb1
        refine l_yesh rfl rfl rfl hb1 (o_val rfl rfl (r_move rfl rfl) ?_)
        refine l_yesh rfl rfl rfl hb1 (o_val rfl rfl (r_lt rfl rfl rfl) ?_)
        refine l_op rfl (o_val rfl rfl (r_pickth rfl rfl hb1 rfl) ?_)
        refine l_nil ?_
        intro aa ww hL hH
        exact ⟨hL.sub (.cons (t := 0) rfl (.cons (t := 3) rfl (.cons (t := 4) rfl (.eq (t := 13) rfl (by first | (simp [hb1]; done) | (simp only [hb1, Bool.true_and, Bool.false_and, Bool.true_or, Bool.false_or, Bool.and_true, Bool.and_false]; done)) .nil)))), hH.hs (.seg .here .all)⟩
      · skip
        have phb1 := of_decide_eq_false hb1
        refine l_noh rfl rfl rfl hb1 rfl rfl ?_
        refine l_noh rfl rfl rfl hb1 rfl rfl ?_
        refine l_op rfl (o_val rfl rfl (r_pickfh rfl rfl hb1 rfl) ?_)
        refine l_nil ?_
        intro aa ww hL hH
        exact ⟨hL.sub (.cons (t := 0) rfl (.cons (t := 3) rfl (.cons (t := 4) rfl (.eq (t := 13) rfl (by first | (simp [hb1]; done) | (simp only [hb1, Bool.true_and, Bool.false_and, Bool.true_or, Bool.false_or, Bool.and_true, Bool.and_false]; done)) .nil)))), hH.hs (.seg .here .all)⟩
    rintro aa ww ⟨hL, hH⟩
    refine Then.run hL hH ?_
    clear hL hH aa ww
    refine t_cond rfl (fun c13 => ?_) (fun c13 => ?_)
    · skip
      try simp only [Bool.or_eq_true, Bool.and_eq_true, decide_eq_true_eq, Bool.not_eq_true', decide_eq_false_iff_not] at c13
      refine t_skip ?_
      refine e_next ?_
      refine t_seq ?_
      refine t_block ?_
      refine t_seq ?_
      refine t_region ?_
      refine l_op rfl (o_val rfl rfl (r_move rfl rfl) ?_)
      refine l_op rfl (o_val rfl rfl (r_move rfl rfl) ?_)
      obtain ⟨b2, o2, cs2, T2, f2, ha2, hm2, hr2⟩ := SliceAt.opn hrl (by omega)
      obtain ⟨x1, hx1⟩ : ∃ x, rl[Int.toNat (k)]? = some x := getSome (by have := hrl.len; omega)
      have hpsx1 := hra x1 (List.mem_of_getElem? hx1)
      refine l_op rfl (o_val rfl rfl (r_indexAddr rfl rfl ha2 rfl Try.underlying22 Try.sizeOf46 (by omega) (by omega)) ?_)
      refine l_op rfl (o_val rfl rfl (r_loadAgg rfl Try.isAgg46 Try.sizeOf46 rfl ((fun p hp => (List.mem_append_right _ (hD _ hp))) _ hm2) (Row.elem hr2 hx1) rfl) ?_)
      refine l_op rfl (o_alloc rfl rfl rfl Try.zeroValue46 rfl ?_)
      intro b3
      refine l_op rfl (o_storeAgg (ys := encRec x1.1) rfl rfl rfl rfl rfl Try.sizeOf46 .head rfl ?_)
      refine l_nil ?_
      refine e_next ?_
      refine t_seq ?_
      refine t_seq ?_
      refine t_region ?_
      refine l_op rfl (o_val rfl rfl (r_fieldAddr (k := 37) rfl rfl Try.underlying46 rfl Try.sizeOf44 rfl rfl) ?_)
      refine l_op rfl (o_val rfl rfl (r_load (v := .slice x1.1.pa x1.1.pn x1.1.pc) rfl Try.isAgg44 rfl List.mem_cons_self rfl) ?_)
      refine l_op rfl (o_val rfl rfl (r_len rfl rfl Try.underlying44) ?_)
      refine l_op rfl (o_val rfl rfl (r_gt rfl rfl rfl) ?_)
      refine l_nil ?_
      refine e_next ?_
      refine t_dec rfl (fun c23 => ?_) (fun c23 => ?_)
      · skip
        have hcp := hpsx1.cap
        refine t_region ?_
        refine l_op rfl (o_val rfl rfl (r_fieldAddr (k := 37) rfl rfl Try.underlying46 rfl Try.sizeOf44 rfl rfl) ?_)
        refine l_op rfl (o_val rfl rfl (r_load (v := .slice x1.1.pa x1.1.pn x1.1.pc) rfl Try.isAgg44 rfl List.mem_cons_self rfl) ?_)
        refine l_op rfl (o_val rfl rfl (r_sliceTo rfl rfl rfl Try.underlying44 Try.sizeOf66 (by omega) (by omega)) ?_)
        refine l_op rfl (o_val rfl rfl (r_fieldAddr (k := 37) rfl rfl Try.underlying46 rfl Try.sizeOf44 rfl rfl) ?_)
        refine l_op rfl (o_store rfl rfl rfl rfl rfl Try.sizeOf44 .head rfl ?_)
        refine Then.of_eq (H2 := ((b3, .cells (encRec ({ x1.1 with pa := x1.1.pa, pn := 40, pc := x1.1.pc } : Rec)).toArray 46 (0, 0)) :: (Xo ++ H))) rfl ?_
        refine l_nil ?_
        refine e_next ?_
        refine t_seq ?_
        refine t_seq ?_
        refine t_region ?_
        refine l_op rfl (o_val rfl rfl (r_fieldAddr (k := 36) rfl rfl Try.underlying46 rfl Try.sizeOf9 rfl rfl) ?_)
        refine l_op rfl (o_val rfl rfl (r_load (v := .string ({ x1.1 with pa := x1.1.pa, pn := 40, pc := x1.1.pc } : Rec).path) rfl Try.isAgg9 rfl List.mem_cons_self rfl) ?_)
        refine l_op rfl (o_val rfl rfl (r_lenStr rfl rfl Try.underlying9) ?_)
        refine l_op rfl (o_val rfl rfl (r_gt rfl rfl rfl) ?_)
        refine l_nil ?_
        refine e_next ?_
        refine t_dec rfl (fun c31 => ?_) (fun c31 => ?_)
        · skip
          refine t_region ?_
          refine l_op rfl (o_val rfl rfl (r_fieldAddr (k := 36) rfl rfl Try.underlying46 rfl Try.sizeOf9 rfl rfl) ?_)
          refine l_op rfl (o_val rfl rfl (r_load (v := .string ({ x1.1 with pa := x1.1.pa, pn := 40, pc := x1.1.pc } : Rec).path) rfl Try.isAgg9 rfl List.mem_cons_self rfl) ?_)
          refine l_op rfl (o_val rfl rfl (r_strTo rfl rfl rfl Try.underlying9 (by omega) (by omega)) ?_)
          refine l_op rfl (o_val rfl rfl (r_fieldAddr (k := 36) rfl rfl Try.underlying46 rfl Try.sizeOf9 rfl rfl) ?_)
          refine l_op rfl (o_store rfl rfl rfl rfl rfl Try.sizeOf9 .head rfl ?_)
          refine Then.of_eq (H2 := ((b3, .cells (encRec ({ ({ x1.1 with pa := x1.1.pa, pn := 40, pc := x1.1.pc } : Rec) with path := (({ x1.1 with pa := x1.1.pa, pn := 40, pc := x1.1.pc } : Rec).path.extract 0 (Int.toNat (300))) } : Rec)).toArray 46 (0, 0)) :: (Xo ++ H))) rfl ?_
          refine l_nil ?_
          refine Then.slots (.cons (t := 0) rfl (.cons (t := 3) rfl (.cons (t := 4) rfl (.cons (t := 5) rfl .nil)))) ?_
          refine e_next ?_
          refine t_region ?_
          refine l_op rfl (o_val rfl rfl (r_move rfl rfl) ?_)
          refine l_op rfl (o_val rfl rfl (r_loadAgg rfl Try.isAgg46 Try.sizeOf46 rfl List.mem_cons_self (At.self _) rfl) ?_)
          refine l_op rfl (o_slice1 rfl rfl rfl rfl rfl Try.underlying22 Try.sizeOf46 Try.zeroValue46 rfl rfl (by omega) ?_)
          intro b4
          refine l_op rfl (o_appendS (enc := encRecP) (xs := ls) (l := [(({ ({ x1.1 with pa := x1.1.pa, pn := 40, pc := x1.1.pc } : Rec) with path := (({ x1.1 with pa := x1.1.pa, pn := 40, pc := x1.1.pc } : Rec).path.extract 0 (Int.toNat (300))) } : Rec), (x1.2.take 40))]) rfl rfl rfl rfl rfl Try.underlying22 Try.type46 rfl rfl rfl rfl (fun _ => rfl) (fun _ => rfl) ho (.tail (.tail .here)) (sliceAt_one (enc := encRecP) (a := (({ ({ x1.1 with pa := x1.1.pa, pn := 40, pc := x1.1.pc } : Rec) with path := (({ x1.1 with pa := x1.1.pa, pn := 40, pc := x1.1.pc } : Rec).path.extract 0 (Int.toNat (300))) } : Rec), (x1.2.take 40))) rfl List.mem_cons_self) (by show (_ + _) * 104 ≤ _; (try simp only [List.length_nil, List.length_cons, List.length_append, List.length_map, List.length_take, endsL_length]); omega) (by (try simp only [List.length_nil, List.length_cons, List.length_append, List.length_map, List.length_take, endsL_length]); omega) ?_)
          intro v5 X5 ho5
          refine l_op rfl (o_val rfl rfl (r_assign rfl rfl) ?_)
          refine l_nil ?_
          refine e_block _ ?_
          refine e_next ?_
          refine t_region ?_
          refine l_op rfl (o_val rfl rfl (r_move rfl rfl) ?_)
          refine l_op rfl (o_val rfl rfl (r_add rfl rfl rfl (by omega) (by omega)) ?_)
          refine l_op rfl (o_val rfl rfl (r_assign rfl rfl) ?_)
          refine l_nil ?_
          intro aa ww hL hH
          exact ⟨_, by omega, k + 1, v5, _, X5, rfl, by omega, by omega, ho5, (RecsAt.snoc hrs (SliceAt.take (k := 40) (c' := x1.1.pc) hpsx1 (by omega) (by omega))), (by simp only [List.length_append, List.length_cons, List.length_nil]; omega), hL.sub (.cons (t := 0) rfl (.cons (t := 3) rfl (.cons (t := 4) rfl .nil))), hH.hs (.seg .here (.drop (.drop .all)))⟩
        · skip
          refine t_skip ?_
          refine e_next ?_
          refine t_region ?_
          refine l_op rfl (o_val rfl rfl (r_move rfl rfl) ?_)
          refine l_op rfl (o_val rfl rfl (r_loadAgg rfl Try.isAgg46 Try.sizeOf46 rfl List.mem_cons_self (At.self _) rfl) ?_)
          refine l_op rfl (o_slice1 rfl rfl rfl rfl rfl Try.underlying22 Try.sizeOf46 Try.zeroValue46 rfl rfl (by omega) ?_)
          intro b6
          refine l_op rfl (o_appendS (enc := encRecP) (xs := ls) (l := [(({ x1.1 with pa := x1.1.pa, pn := 40, pc := x1.1.pc } : Rec), (x1.2.take 40))]) rfl rfl rfl rfl rfl Try.underlying22 Try.type46 rfl rfl rfl rfl (fun _ => rfl) (fun _ => rfl) ho (.tail (.tail .here)) (sliceAt_one (enc := encRecP) (a := (({ x1.1 with pa := x1.1.pa, pn := 40, pc := x1.1.pc } : Rec), (x1.2.take 40))) rfl List.mem_cons_self) (by show (_ + _) * 104 ≤ _; (try simp only [List.length_nil, List.length_cons, List.length_append, List.length_map, List.length_take, endsL_length]); omega) (by (try simp only [List.length_nil, List.length_cons, List.length_append, List.length_map, List.length_take, endsL_length]); omega) ?_)
          intro v7 X7 ho7
          refine l_op rfl (o_val rfl rfl (r_assign rfl rfl) ?_)
          refine l_nil ?_
          refine Then.slots (.cons (t := 0) rfl (.cons (t := 3) rfl (.cons (t := 4) rfl .nil))) ?_
          refine e_block _ ?_
          refine e_next ?_
          refine t_region ?_
          refine l_op rfl (o_val rfl rfl (r_move rfl rfl) ?_)
          refine l_op rfl (o_val rfl rfl (r_add rfl rfl rfl (by omega) (by omega)) ?_)
          refine l_op rfl (o_val rfl rfl (r_assign rfl rfl) ?_)
          refine l_nil ?_
          intro aa ww hL hH
          exact ⟨_, by omega, k + 1, v7, _, X7, rfl, by omega, by omega, ho7, (RecsAt.snoc hrs (SliceAt.take (k := 40) (c' := x1.1.pc) hpsx1 (by omega) (by omega))), (by simp only [List.length_append, List.length_cons, List.length_nil]; omega), hL.sub (.cons (t := 0) rfl (.cons (t := 3) rfl (.cons (t := 4) rfl .nil))), hH.hs (.seg .here (.drop (.drop .all)))⟩
      · skip
        refine t_skip ?_
        refine e_next ?_
        refine t_seq ?_
        refine t_seq ?_
        refine t_region ?_
        refine l_op rfl (o_val rfl rfl (r_fieldAddr (k := 36) rfl rfl Try.underlying46 rfl Try.sizeOf9 rfl rfl) ?_)
        refine l_op rfl (o_val rfl rfl (r_load (v := .string x1.1.path) rfl Try.isAgg9 rfl List.mem_cons_self rfl) ?_)
        refine l_op rfl (o_val rfl rfl (r_lenStr rfl rfl Try.underlying9) ?_)
        refine l_op rfl (o_val rfl rfl (r_gt rfl rfl rfl) ?_)
        refine l_nil ?_
        refine e_next ?_
        refine t_dec rfl (fun c31 => ?_) (fun c31 => ?_)
        · skip
          refine t_region ?_
          refine l_op rfl (o_val rfl rfl (r_fieldAddr (k := 36) rfl rfl Try.underlying46 rfl Try.sizeOf9 rfl rfl) ?_)
          refine l_op rfl (o_val rfl rfl (r_load (v := .string x1.1.path) rfl Try.isAgg9 rfl List.mem_cons_self rfl) ?_)
          refine l_op rfl (o_val rfl rfl (r_strTo rfl rfl rfl Try.underlying9 (by omega) (by omega)) ?_)
          refine l_op rfl (o_val rfl rfl (r_fieldAddr (k := 36) rfl rfl Try.underlying46 rfl Try.sizeOf9 rfl rfl) ?_)
          refine l_op rfl (o_store rfl rfl rfl rfl rfl Try.sizeOf9 .head rfl ?_)
          refine Then.of_eq (H2 := ((b3, .cells (encRec ({ x1.1 with path := (x1.1.path.extract 0 (Int.toNat (300))) } : Rec)).toArray 46 (0, 0)) :: (Xo ++ H))) rfl ?_
          refine l_nil ?_
          refine e_next ?_
          refine t_region ?_
          refine l_op rfl (o_val rfl rfl (r_move rfl rfl) ?_)
          refine l_op rfl (o_val rfl rfl (r_loadAgg rfl Try.isAgg46 Try.sizeOf46 rfl List.mem_cons_self (At.self _) rfl) ?_)
          refine l_op rfl (o_slice1 rfl rfl rfl rfl rfl Try.underlying22 Try.sizeOf46 Try.zeroValue46 rfl rfl (by omega) ?_)
          intro b8
          refine l_op rfl (o_appendS (enc := encRecP) (xs := ls) (l := [(({ x1.1 with path := (x1.1.path.extract 0 (Int.toNat (300))) } : Rec), x1.2)]) rfl rfl rfl rfl rfl Try.underlying22 Try.type46 rfl rfl rfl rfl (fun _ => rfl) (fun _ => rfl) ho (.tail (.tail .here)) (sliceAt_one (enc := encRecP) (a := (({ x1.1 with path := (x1.1.path.extract 0 (Int.toNat (300))) } : Rec), x1.2)) rfl List.mem_cons_self) (by show (_ + _) * 104 ≤ _; (try simp only [List.length_nil, List.length_cons, List.length_append, List.length_map, List.length_take, endsL_length]); omega) (by (try simp only [List.length_nil, List.length_cons, List.length_append, List.length_map, List.length_take, endsL_length]); omega) ?_)
          intro v9 X9 ho9
          refine l_op rfl (o_val rfl rfl (r_assign rfl rfl) ?_)
          refine l_nil ?_
          refine Then.slots (.cons (t := 0) rfl (.cons (t := 3) rfl (.cons (t := 4) rfl .nil))) ?_
          refine e_block _ ?_
          refine e_next ?_
          refine t_region ?_
          refine l_op rfl (o_val rfl rfl (r_move rfl rfl) ?_)
          refine l_op rfl (o_val rfl rfl (r_add rfl rfl rfl (by omega) (by omega)) ?_)
          refine l_op rfl (o_val rfl rfl (r_assign rfl rfl) ?_)
          refine l_nil ?_
          intro aa ww hL hH
          exact ⟨_, by omega, k + 1, v9, _, X9, rfl, by omega, by omega, ho9, (RecsAt.snoc hrs hpsx1), (by simp only [List.length_append, List.length_cons, List.length_nil]; omega), hL.sub (.cons (t := 0) rfl (.cons (t := 3) rfl (.cons (t := 4) rfl .nil))), hH.hs (.seg .here (.drop (.drop .all)))⟩
        · skip
          refine t_skip ?_
          refine e_next ?_
          refine t_region ?_
          refine l_op rfl (o_val rfl rfl (r_move rfl rfl) ?_)
          refine l_op rfl (o_val rfl rfl (r_loadAgg rfl Try.isAgg46 Try.sizeOf46 rfl List.mem_cons_self (At.self _) rfl) ?_)
          refine l_op rfl (o_slice1 rfl rfl rfl rfl rfl Try.underlying22 Try.sizeOf46 Try.zeroValue46 rfl rfl (by omega) ?_)
          intro b10
          refine l_op rfl (o_appendS (enc := encRecP) (xs := ls) (l := [(x1.1, x1.2)]) rfl rfl rfl rfl rfl Try.underlying22 Try.type46 rfl rfl rfl rfl (fun _ => rfl) (fun _ => rfl) ho (.tail (.tail .here)) (sliceAt_one (enc := encRecP) (a := (x1.1, x1.2)) rfl List.mem_cons_self) (by show (_ + _) * 104 ≤ _; (try simp only [List.length_nil, List.length_cons, List.length_append, List.length_map, List.length_take, endsL_length]); omega) (by (try simp only [List.length_nil, List.length_cons, List.length_append, List.length_map, List.length_take, endsL_length]); omega) ?_)
          intro v11 X11 ho11
          refine l_op rfl (o_val rfl rfl (r_assign rfl rfl) ?_)
          refine l_nil ?_
          refine e_block _ ?_
          refine e_next ?_
          refine t_region ?_
          refine l_op rfl (o_val rfl rfl (r_move rfl rfl) ?_)
          refine l_op rfl (o_val rfl rfl (r_add rfl rfl rfl (by omega) (by omega)) ?_)
          refine l_op rfl (o_val rfl rfl (r_assign rfl rfl) ?_)
          refine l_nil ?_
          refine Then.slots (.cons (t := 0) rfl (.cons (t := 3) rfl (.cons (t := 4) rfl .nil))) ?_
          intro aa ww hL hH
          exact ⟨_, by omega, k + 1, v11, _, X11, rfl, by omega, by omega, ho11, (RecsAt.snoc hrs hpsx1), (by simp only [List.length_append, List.length_cons, List.length_nil]; omega), hL.sub (.cons (t := 0) rfl (.cons (t := 3) rfl (.cons (t := 4) rfl .nil))), hH.hs (.seg .here (.drop (.drop .all)))⟩
    · skip
      try simp only [Bool.or_eq_false_iff, Bool.and_eq_false_iff, decide_eq_false_iff_not, Bool.not_eq_false', decide_eq_true_eq] at c13
      refine t_exit ?_
      refine e_pass_exit ?_
      refine e_pass_exit ?_
      refine e_block_here ?_
      refine e_next ?_
      refine t_seq ?_
      try rw [List.nil_append] at ho
      obtain ⟨a12, c12, rfl, hs12⟩ := ho.at
      refine t_region ?_
      refine l_op rfl (o_val rfl rfl (r_move rfl rfl) ?_)
      refine l_op rfl (o_val rfl rfl (r_assign rfl rfl) ?_)
      refine l_nil ?_
      refine e_next ?_
      refine t_ret ?_
      exact e_ret rfl (.tmp rfl .nil) ⟨_, _, _, _, ls, rfl, (PreL.eq (.app .refl)), SliceAt.mono hs12 (fun p hp => (List.mem_append_left _ (List.mem_append_left _ hp))), hrs.mono (fun p hp => List.mem_append_right _ hp), by omega⟩

set_option maxRecDepth 100000 in
theorem hasPre_c {E : Env} {H : Heap} (s p : ByteArray) :
    Fn Try.prog 49 [.string s, .string p] E H (fun v H2 => v = .bool (hasPre s p) ∧ H2 = H) := by
  refine Fn.of_body (N := 18) Try.func49 rfl rfl rfl ?_
  refine t_seq ?_
  refine t_region ?_
  refine l_op rfl (o_val rfl rfl (r_assign rfl rfl) ?_)
  refine l_nil ?_
  refine e_next ?_
  refine t_cut (fun aa ww => Sl 18 [(4, .bool ((decide ((s.size : Int) ≥ (p.size : Int)) && decide ((s.extract 0 (Int.toNat ((p.size : Int)))) = p))))] aa ∧ Holds E H ww) ?_ ?_
  · skip
    refine t_region ?_
    refine l_op rfl (o_val rfl rfl (r_move rfl rfl) ?_)
    refine l_op rfl (o_val rfl rfl (r_lenStr rfl rfl Try.underlying9) ?_)
    refine l_op rfl (o_val rfl rfl (r_move rfl rfl) ?_)
    refine l_op rfl (o_val rfl rfl (r_lenStr rfl rfl Try.underlying9) ?_)
    refine l_op rfl (o_val rfl rfl (r_ge rfl rfl rfl) ?_)
    refine l_op rfl (o_val rfl rfl (r_move rfl rfl) ?_)
    refine t_bool (decide ((s.size : Int) ≥ (p.size : Int))) (fun hb1 => ?_) (fun hb1 => ?_)
    · skip
      have phb1 := of_decide_eq_true hb1
      refine l_yesh rfl rfl rfl hb1 (o_val rfl rfl (r_move rfl rfl) ?_)
      refine l_yesh rfl rfl rfl hb1 (o_val rfl rfl (r_move rfl rfl) ?_)
      refine l_yesh rfl rfl rfl hb1 (o_val rfl rfl (r_lenStr rfl rfl Try.underlying9) ?_)
      refine l_yesh rfl rfl rfl hb1 (o_val rfl rfl (r_strTo rfl rfl rfl Try.underlying9 (by omega) (by omega)) ?_)
      refine l_yesh rfl rfl rfl hb1 (o_val rfl rfl (r_move rfl rfl) ?_)
      refine l_yesh rfl rfl rfl hb1 (o_val rfl rfl (r_seq rfl rfl rfl) ?_)
      refine l_op rfl (o_val rfl rfl (r_pickth rfl rfl hb1 rfl) ?_)
      refine l_op rfl (o_val rfl rfl (r_assign rfl rfl) ?_)
      refine l_nil ?_
      intro aa ww hL hH
      exact ⟨hL.sub (.eq (t := 4) rfl (by first | (simp [hb1]; done) | (simp only [hb1, Bool.true_and, Bool.false_and, Bool.true_or, Bool.false_or, Bool.and_true, Bool.and_false]; done)) .nil), hH.hs .all⟩
    · skip
      have phb1 := of_decide_eq_false hb1
      refine l_noh rfl rfl rfl hb1 rfl rfl ?_
      refine l_noh rfl rfl rfl hb1 rfl rfl ?_
      refine l_noh rfl rfl rfl hb1 rfl rfl ?_
      refine l_noh rfl rfl rfl hb1 rfl rfl ?_
      refine l_noh rfl rfl rfl hb1 rfl rfl ?_
      refine l_noh rfl rfl rfl hb1 rfl rfl ?_
      refine l_op rfl (o_val rfl rfl (r_pickfh rfl rfl hb1 rfl) ?_)
      refine l_op rfl (o_val rfl rfl (r_assign rfl rfl) ?_)
      refine l_nil ?_
      intro aa ww hL hH
      exact ⟨hL.sub (.eq (t := 4) rfl (by first | (simp [hb1]; done) | (simp only [hb1, Bool.true_and, Bool.false_and, Bool.true_or, Bool.false_or, Bool.and_true, Bool.and_false]; done)) .nil), hH.hs .all⟩
  rintro aa ww ⟨hL, hH⟩
  refine Then.run hL hH ?_
  clear hL hH aa ww
  refine t_ret ?_
  exact e_ret rfl (.tmp rfl .nil) ⟨by unfold hasPre; first | rfl | (simp [retV]; done), rfl⟩

set_option maxRecDepth 100000 in
theorem hasPrefix_c {E : Env} {H : Heap} (s p : ByteArray) :
    Fn Try.prog 25 [.string s, .string p] E H (fun v H2 => v = .bool (hasPre s p) ∧ H2 = H) := by
  refine Fn.of_body (N := 8) Try.func25 rfl rfl rfl ?_
  refine t_seq ?_
  refine t_region ?_
  refine l_op rfl (o_val rfl rfl (r_assign rfl rfl) ?_)
  refine l_nil ?_
  refine e_next ?_
  refine t_seq ?_
  refine t_region ?_
  refine l_op rfl (o_val rfl rfl (r_move rfl rfl) ?_)
  refine l_op rfl (o_val rfl rfl (r_move rfl rfl) ?_)
  refine l_op rfl (o_call rfl rfl rfl Try.call49 rfl (hasPre_c s p) ?_)
  rintro _ _ ⟨rfl, he⟩
  rw [he]
  clear he
  refine l_op rfl (o_val rfl rfl (r_assign rfl rfl) ?_)
  refine l_nil ?_
  refine e_next ?_
  refine t_ret ?_
  exact e_ret rfl (.tmp rfl .nil) ⟨rfl, rfl⟩

set_option maxRecDepth 100000 in
theorem list_c {E : Env} {H D : Heap} (hD : ∀ p, p ∈ D → p ∈ H) {bn bm : Nat} (hbn : (bn, .cells ([.map (some bm)] : List Value).toArray 57 (0, 0)) ∈ D) {es : Array MapEntry} {c : Nat} {m : FMap} (him : IsMap es c fileV m) (hbm : (bm, .map es c) ∈ H) (hfa : FilesAt D m) (hml : m.length ≤ 4096) {k : ByteArray} :
    Fn Try.prog 11 [.pointer (some ⟨bn, 0, none⟩), .string k] E H (fun v H2 => ∃ X a n2 c2 fl2, v = .slice a n2 c2 ∧ H2 = X ++ H ∧ SliceAt (X ++ D) encFL 4 a n2 c2 fl2 ∧ RepAll (X ++ D) fl2 ∧ (RL fl2).Perm ((LM m).filter fun p => hasPre p.1 k) ∧ (RL fl2).Pairwise (fun x y => strLt y.1 x.1 = false)) := by
  refine Fn.of_body (N := 32) Try.func11 rfl rfl rfl ?_
  refine t_seq ?_
  have hms := him.size
  refine t_region ?_
  refine l_op rfl (o_val rfl rfl (r_assign rfl rfl) ?_)
  refine l_nil ?_
  refine e_next ?_
  refine t_seq ?_
  refine t_seq ?_
  refine t_region ?_
  refine l_op rfl (o_val rfl rfl (r_move rfl rfl) ?_)
  refine l_op rfl (o_call rfl rfl rfl Try.call24 rfl (made_c (fun p hp => (hD _ hp)) hbn) ?_)
  rintro _ _ ⟨rfl, he⟩
  rw [he]
  clear he
  refine l_op rfl (o_val rfl rfl (r_not rfl rfl) ?_)
  refine l_nil ?_
  refine e_next ?_
  refine t_false rfl ?_
  refine t_skip ?_
  refine e_next ?_
  refine t_seq ?_
  refine t_region ?_
  refine l_op rfl (o_val rfl rfl (r_assign rfl rfl) ?_)
  refine l_nil ?_
  refine e_next ?_
  refine t_seq ?_
  refine t_seq ?_
  refine t_region ?_
  refine l_op rfl (o_val rfl rfl (r_move rfl rfl) ?_)
  refine l_op rfl (o_val rfl rfl (r_nilCheck rfl rfl) ?_)
  refine l_op rfl (o_val rfl rfl (r_fieldAddr (k := 0) rfl rfl Try.underlying57 rfl Try.sizeOf55 rfl rfl) ?_)
  refine l_op rfl (o_val rfl rfl (r_load (v := .map (some bm)) rfl Try.isAgg55 rfl ((fun p hp => (hD _ hp)) _ hbn) rfl) ?_)
  refine l_op rfl (o_range rfl rfl rfl rfl Try.underlying55 hbm ?_)
  intro b1
  refine l_nil ?_
  refine e_next ?_
  refine t_block ?_
  refine t_loop (fun (mz : Nat) aa ww => ∃ (seen : Array Nat) (c0 : Nat) (vl : FMap) (vo : Value) (ls : List (File × FileL)) (Xo : Heap) (X : Heap), mz = (m.length - vl.length) ∧ (IterAt es m seen vl) ∧ (c ≤ c0) ∧ (Own 4 48 vo (ls.map encFL) Xo) ∧ (RepAll (X ++ D) ls) ∧ (RL ls = LM (vl.filter fun p => hasPre p.1 k)) ∧ (ls.length ≤ vl.length) ∧ Sl 32 [(1, .string k), (5, vo), (15, .pointer (some ⟨b1, 0, none⟩))] aa ∧ Holds E (Xo ++ ((b1, .mapIter (some bm) c seen c0) :: (X ++ H))) ww) ((m.length - 0)) ?_ ?_
  · intro aa ww hL hH
    exact ⟨#[], c, [], .slice none 0 0, [], [], [], rfl, IterAt.start, Nat.le_refl _, Own.nil _ _, (fun x hx => by cases hx), rfl, Nat.le_refl _, hL.sub (.cons (t := 1) rfl (.cons (t := 5) rfl (.cons (t := 15) rfl .nil))), hH.hs (.seg (S := []) .here (.cell .head (.seg (S := []) .here .all)))⟩
  · skip
    rintro mz aa ww ⟨seen, c0, vl, vo, ls, Xo, X, hmz, hI, hc, ho, hrs, hcont, hll, hL, hH⟩
    refine Then.run hL hH ?_
    clear hL hH aa ww
    have hvl := hI.len
    refine t_seq ?_
    refine t_region ?_
    refine l_op rfl (o_next rfl rfl rfl rfl (.app .head) (List.mem_append_right _ (List.mem_append_right _ hbm)) him hI hc (fun hperm => ?_) (fun p2 bo2 hpm2 hI2 he2 => ?_))
    · skip
      refine l_op rfl (o_val rfl rfl (r_extract (v := .bool (false)) rfl rfl rfl) ?_)
      refine l_nil ?_
      refine e_next ?_
      refine t_seq ?_
      refine t_false rfl ?_
      refine t_exit ?_
      refine e_pass_exit ?_
      refine e_pass_exit ?_
      refine e_block_here ?_
      refine e_next ?_
      refine t_seq ?_
      refine t_region ?_
      refine l_op rfl (o_val rfl rfl (r_move rfl rfl) ?_)
      refine Then.mem (.seg .here .all) ?_
      refine l_op rfl (o_call rfl rfl rfl Try.call27 rfl (sortFiles_c ho (by omega)) ?_)
      rintro _ _ ⟨rfl, l3, X3, hp3, hso3, ho3, rfl⟩
      refine l_nil ?_
      refine e_next ?_
      refine t_seq ?_
      try rw [List.nil_append] at ho3
      obtain ⟨a4, c4, rfl, hs4⟩ := ho3.at
      refine t_region ?_
      refine l_op rfl (o_val rfl rfl (r_move rfl rfl) ?_)
      refine l_op rfl (o_val rfl rfl (r_assign rfl rfl) ?_)
      refine l_nil ?_
      refine e_next ?_
      refine t_ret ?_
      exact e_ret rfl (.tmp rfl .nil) ⟨_, _, _, _, l3, rfl, (PreL.eq (.app (.cons (.app .refl)))), SliceAt.mono hs4 (fun p hp => (List.mem_append_left _ (List.mem_append_left _ hp))), RepAll.mono (RepAll.perm hrs hp3) (ds_app (fun p hp => (List.mem_append_left _ (List.mem_append_right _ (List.mem_cons_of_mem _ (List.mem_append_left _ hp))))) (fun p hp => List.mem_append_right _ hp)), (list_perm (f := fun q => hasPre q k) hperm hcont hp3), (list_sorted hso3)⟩
    · skip
      refine l_op rfl (o_val rfl rfl (r_extract (v := .bool (true)) rfl rfl rfl) ?_)
      refine l_nil ?_
      refine e_next ?_
      refine t_seq ?_
      refine t_true rfl ?_
      refine t_skip ?_
      refine e_next ?_
      refine t_block ?_
      refine t_seq ?_
      refine t_region ?_
      refine l_op rfl (o_val rfl rfl (r_entry rfl rfl List.mem_cons_self (List.mem_cons_of_mem _ (List.mem_append_right _ (List.mem_append_right _ hbm))) him he2) ?_)
      refine l_op rfl (o_val rfl rfl (r_extract (v := .string p2.1) rfl rfl rfl) ?_)
      refine l_op rfl (o_val rfl rfl (r_extract (v := .agg (encFile p2.2.1).toArray) rfl rfl rfl) ?_)
      refine l_op rfl (o_alloc rfl rfl rfl Try.zeroValue48 rfl ?_)
      intro b5
      refine l_op rfl (o_val rfl rfl (r_assign rfl rfl) ?_)
      refine l_op rfl (o_storeAgg (ys := encFile p2.2.1) rfl rfl rfl rfl rfl Try.sizeOf48 .head rfl ?_)
      refine l_nil ?_
      refine e_next ?_
      refine t_seq ?_
      refine t_region ?_
      refine l_op rfl (o_val rfl rfl (r_move rfl rfl) ?_)
      refine l_op rfl (o_val rfl rfl (r_move rfl rfl) ?_)
      refine l_op rfl (o_call rfl rfl rfl Try.call25 rfl (hasPrefix_c p2.1 k) ?_)
      rintro _ _ ⟨rfl, he⟩
      rw [he]
      clear he
      refine l_nil ?_
      refine e_next ?_
      refine t_cond rfl (fun c23 => ?_) (fun c23 => ?_)
      · skip
        refine t_region ?_
        refine l_op rfl (o_val rfl rfl (r_move rfl rfl) ?_)
        refine l_op rfl (o_val rfl rfl (r_loadAgg rfl Try.isAgg48 Try.sizeOf48 rfl List.mem_cons_self (At.self _) rfl) ?_)
        refine l_op rfl (o_call rfl rfl rfl Try.call26 rfl (own_c (f := p2.2.1) (k := p2.1) (l := p2.2.2) (D := D) (fun p hp => (List.mem_cons_of_mem _ (List.mem_cons_of_mem _ (List.mem_append_right _ (List.mem_append_right _ (hD _ hp)))))) (hfa p2 hpm2)) ?_)
        rintro _ _ ⟨f6, X6, rfl, rfl, hf6⟩
        refine l_op rfl (o_slice1 rfl rfl rfl rfl rfl Try.underlying32 Try.sizeOf48 Try.zeroValue48 rfl rfl (by omega) ?_)
        intro b7
        refine l_op rfl (o_appendS (enc := encFL) (xs := ls) (l := [(f6, p2.2.2)]) rfl rfl rfl rfl rfl Try.underlying32 Try.type48 rfl rfl rfl rfl (fun _ => rfl) (fun _ => rfl) ho (.tail (.app (.tail (.tail .here)))) (sliceAt_one (enc := encFL) (a := (f6, p2.2.2)) rfl List.mem_cons_self) (by show (_ + _) * 56 ≤ _; (try simp only [List.length_nil, List.length_cons, List.length_append, List.length_map, List.length_take, endsL_length]); omega) (by (try simp only [List.length_nil, List.length_cons, List.length_append, List.length_map, List.length_take, endsL_length]); omega) ?_)
        intro v8 X8 ho8
        refine l_op rfl (o_val rfl rfl (r_assign rfl rfl) ?_)
        refine l_nil ?_
        refine e_block _ ?_
        intro aa ww hL hH
        exact ⟨_, (by have := hI2.len; simp only [List.length_append, List.length_cons, List.length_nil] at this ⊢; omega), (seen.push bo2), c, vl ++ [p2], v8, _, X8, X6 ++ X, rfl, hI2, (Nat.le_refl _), ho8, (by have h2 := RepAll.snoc (x := (f6, p2.2.2)) (RepAll.mono hrs (fun p hp => List.mem_append_right _ hp)) (FRep.self (FRep.mono hf6 (fun p hp => (List.mem_append.1 hp).elim (fun h => List.mem_append_left _ h) (fun h => List.mem_append_right _ (List.mem_append_right _ h))))); simpa using h2), (by rw [LM_filter_snoc, if_pos c23, ← hcont, RL_append]; simp [RL, (hf6).path]), (by (try simp only [List.length_append, List.length_cons, List.length_nil]); omega), hL.sub (.cons (t := 1) rfl (.cons (t := 5) rfl (.cons (t := 15) rfl .nil))), hH.hs (.seg .here (.cell (.tail (.app (.tail .head))) (.assoc (.seg (.tail .here) (.seg (.tail (.tail .here)) (.drop (.drop .all)))))))⟩
      · skip
        refine t_skip ?_
        refine e_block _ ?_
        intro aa ww hL hH
        exact ⟨_, (by have := hI2.len; simp only [List.length_append, List.length_cons, List.length_nil] at this ⊢; omega), (seen.push bo2), c, vl ++ [p2], vo, _, Xo, X, rfl, hI2, (Nat.le_refl _), ho, hrs, (by rw [LM_filter_snoc, if_neg (by rw [c23]; simp), hcont]), (by (try simp only [List.length_append, List.length_cons, List.length_nil]); omega), hL.sub (.cons (t := 1) rfl (.cons (t := 5) rfl (.cons (t := 15) rfl .nil))), hH.hs (.seg (.tail (.tail .here)) (.cell (.tail .head) (.seg (.tail .here) (.drop .all))))⟩

set_option maxRecDepth 100000 in
theorem sameFiles_c {E : Env} {H D : Heap} (hD : ∀ p, p ∈ D → p ∈ H) {a1 a2 : Option Addr} {n1 n2 c1 c2 : Nat} {fl1 fl2 : List (File × FileL)} (hfl1 : SliceAt D encFL 4 a1 n1 c1 fl1) (hra1 : RepAll D fl1) (hfl2 : SliceAt D encFL 4 a2 n2 c2 fl2) (hra2 : RepAll D fl2) (hRL : RL fl1 = RL fl2) (hn : n1 ≤ 4096) :
    Fn Try.prog 10 [.slice a1 n1 c1, .slice a2 n2 c2] E H (fun v H2 => v = .bool true ∧ H2 = H) := by
  have hl1 := hfl1.len
  have hl2 := hfl2.len
  have hl3 := congrArg List.length hRL
  simp only [RL_length] at hl3
  refine Fn.of_body (N := 97) Try.func10 rfl rfl rfl ?_
  refine t_seq ?_
  refine t_region ?_
  refine l_op rfl (o_val rfl rfl (r_assign rfl rfl) ?_)
  refine l_nil ?_
  refine e_next ?_
  refine t_seq ?_
  refine t_seq ?_
  refine t_region ?_
  refine l_op rfl (o_val rfl rfl (r_move rfl rfl) ?_)
  refine l_op rfl (o_val rfl rfl (r_len rfl rfl Try.underlying32) ?_)
  refine l_op rfl (o_val rfl rfl (r_move rfl rfl) ?_)
  refine l_op rfl (o_val rfl rfl (r_len rfl rfl Try.underlying32) ?_)
  refine l_op rfl (o_val rfl rfl (r_ne rfl rfl rfl) ?_)
  refine l_nil ?_
  refine e_next ?_
  refine t_decf rfl (by omega) ?_
  refine t_skip ?_
  refine e_next ?_
  refine t_seq ?_
  refine t_seq ?_
  refine t_region ?_
  refine l_op rfl (o_val rfl rfl (r_assign rfl rfl) ?_)
  refine l_nil ?_
  refine e_next ?_
  refine t_block ?_
  refine t_loop (fun (mz : Nat) aa ww => ∃ (i : Int), mz = (n1 - i.toNat) ∧ (0 ≤ i) ∧ (i ≤ n1) ∧ Sl 97 [(0, .slice a1 n1 c1), (1, .slice a2 n2 c2), (5, .int .i64 (i))] aa ∧ Holds E H ww) (n1) ?_ ?_
  · intro aa ww hL hH
    exact ⟨0, rfl, by omega, by omega, hL.sub (.cons (t := 0) rfl (.cons (t := 1) rfl (.cons (t := 5) rfl .nil))), hH.hs .all⟩
  · skip
    rintro mz aa ww ⟨i, hmz, h0, h1, hL, hH⟩
    refine Then.run hL hH ?_
    clear hL hH aa ww
    refine t_seq ?_
    refine t_seq ?_
    refine t_region ?_
    refine l_op rfl (o_val rfl rfl (r_move rfl rfl) ?_)
    refine l_op rfl (o_val rfl rfl (r_move rfl rfl) ?_)
    refine l_op rfl (o_val rfl rfl (r_len rfl rfl Try.underlying32) ?_)
    refine l_op rfl (o_val rfl rfl (r_lt rfl rfl rfl) ?_)
    refine l_nil ?_
    refine e_next ?_
    refine t_dec rfl (fun c15 => ?_) (fun c15 => ?_)
    · skip
      refine t_skip ?_
      refine e_next ?_
      refine t_seq ?_
      refine t_block ?_
      refine t_seq ?_
      refine t_seq ?_
      refine t_draw (n := 52) .all rfl (by kernel_rfl) ?_
      refine a_take (i := 0) rfl rfl rfl rfl (by kernel_rfl) (by kernel_rfl) (by kernel_rfl) (fun _ _ _ h => h) .all (r_move rfl rfl) ?_
      refine a_take (i := 1) rfl rfl rfl rfl (by kernel_rfl) (by kernel_rfl) (by kernel_rfl) (fun _ _ _ h => h) .all (r_move rfl rfl) ?_
      obtain ⟨b1, o1, cs1, T1, f1, ha1, hm1, hr1⟩ := SliceAt.opn hfl1 (by omega)
      obtain ⟨f1, hx1⟩ : ∃ x, fl1[Int.toNat (i)]? = some x := getSome (by have := hfl1.len; omega)
      have hrepf1 := hra1 f1 (List.mem_of_getElem? hx1)
      refine a_take (i := 2) rfl rfl rfl rfl (by kernel_rfl) (by kernel_rfl) (by kernel_rfl) (fun _ _ _ h => h) .all (r_indexAddr rfl rfl ha1 rfl Try.underlying32 Try.sizeOf48 (by omega) (by omega)) ?_
      refine a_take (i := 3) rfl rfl rfl rfl (by kernel_rfl) (by kernel_rfl) (by kernel_rfl) (fun _ _ _ h => h) .all (r_fieldAddr (k := 0) rfl rfl Try.underlying48 rfl Try.sizeOf9 rfl rfl) ?_
      refine a_take (i := 4) rfl rfl rfl rfl (by kernel_rfl) (by kernel_rfl) (by kernel_rfl) (fun _ _ _ h => h) .all (r_load (v := .string f1.1.path) rfl Try.isAgg9 rfl ((fun p hp => (hD _ hp)) _ hm1) (At.get (Row.elem hr1 hx1) (j := 0) rfl)) ?_
      refine a_take (i := 5) rfl rfl rfl rfl (by kernel_rfl) (by kernel_rfl) (by kernel_rfl) (fun _ _ _ h => h) .all (r_move rfl rfl) ?_
      refine a_take (i := 6) rfl rfl rfl rfl (by kernel_rfl) (by kernel_rfl) (by kernel_rfl) (fun _ _ _ h => h) .all (r_move rfl rfl) ?_
      obtain ⟨b2, o2, cs2, T2, f2, ha2, hm2, hr2⟩ := SliceAt.opn hfl2 (by omega)
      obtain ⟨g2, hx2⟩ : ∃ x, fl2[Int.toNat (i)]? = some x := getSome (by have := hfl2.len; omega)
      have hrepg2 := hra2 g2 (List.mem_of_getElem? hx2)
      obtain ⟨hq1, hq2⟩ := RL_at hRL hx1 hx2
      have hz1 : f1.1.size = g2.1.size := by rw [hrepf1.size, hq2]; exact hrepg2.size.symm
      have hz2 : f1.1.seq = g2.1.seq := by rw [hrepf1.seq, hq2]; exact hrepg2.seq.symm
      have hz3 := hrepf1.at_.len
      have hz4 := hrepg2.at_.len
      have hz5 : f1.2.ps.length = g2.2.ps.length := by rw [hq2]
      have htot := recSize_go hrepf1.tot
      have hfw := recSize_few hrepf1.tot
      refine a_take (i := 7) rfl rfl rfl rfl (by kernel_rfl) (by kernel_rfl) (by kernel_rfl) (fun _ _ _ h => h) .all (r_indexAddr rfl rfl ha2 rfl Try.underlying32 Try.sizeOf48 (by omega) (by omega)) ?_
      refine a_take (i := 8) rfl rfl rfl rfl (by kernel_rfl) (by kernel_rfl) (by kernel_rfl) (fun _ _ _ h => h) .all (r_fieldAddr (k := 0) rfl rfl Try.underlying48 rfl Try.sizeOf9 rfl rfl) ?_
      refine a_take (i := 9) rfl rfl rfl rfl (by kernel_rfl) (by kernel_rfl) (by kernel_rfl) (fun _ _ _ h => h) .all (r_load (v := .string g2.1.path) rfl Try.isAgg9 rfl ((fun p hp => (hD _ hp)) _ hm2) (At.get (Row.elem hr2 hx2) (j := 0) rfl)) ?_
      refine a_take (i := 10) rfl rfl rfl rfl (by kernel_rfl) (by kernel_rfl) (by kernel_rfl) (fun _ _ _ h => h) .all (r_sne rfl rfl rfl) ?_
      have ht3 : decide (f1.1.path ≠ g2.1.path) = false := decide_eq_false (by simp [hq1])
      refine a_take (i := 11) rfl rfl rfl rfl (by kernel_rfl) (by kernel_rfl) (by kernel_rfl) (fun _ _ _ h => h) .all (r_move rfl rfl) ?_
      refine a_takegh (i := 12) rfl rfl rfl rfl rfl rfl ht3 (by kernel_rfl) (by kernel_rfl) (by kernel_rfl) (fun _ _ _ h => h) .all (r_move rfl rfl) ?_
      refine a_takegh (i := 13) rfl rfl rfl rfl rfl rfl ht3 (by kernel_rfl) (by kernel_rfl) (by kernel_rfl) (fun _ _ _ h => h) .all (r_move rfl rfl) ?_
      refine a_takegh (i := 14) rfl rfl rfl rfl rfl rfl ht3 (by kernel_rfl) (by kernel_rfl) (by kernel_rfl) (fun _ _ _ h => h) .all (r_indexAddr rfl rfl ha1 rfl Try.underlying32 Try.sizeOf48 (by omega) (by omega)) ?_
      refine a_takegh (i := 15) rfl rfl rfl rfl rfl rfl ht3 (by kernel_rfl) (by kernel_rfl) (by kernel_rfl) (fun _ _ _ h => h) .all (r_fieldAddr (k := 1) rfl rfl Try.underlying48 rfl Try.sizeOf3 rfl rfl) ?_
      refine a_takegh (i := 16) rfl rfl rfl rfl rfl rfl ht3 (by kernel_rfl) (by kernel_rfl) (by kernel_rfl) (fun _ _ _ h => h) .all (r_load (v := .int .i64 (f1.1.size)) rfl Try.isAgg3 rfl ((fun p hp => (hD _ hp)) _ hm1) (At.get (Row.elem hr1 hx1) (j := 1) rfl)) ?_
      refine a_takegh (i := 17) rfl rfl rfl rfl rfl rfl ht3 (by kernel_rfl) (by kernel_rfl) (by kernel_rfl) (fun _ _ _ h => h) .all (r_move rfl rfl) ?_
      refine a_takegh (i := 18) rfl rfl rfl rfl rfl rfl ht3 (by kernel_rfl) (by kernel_rfl) (by kernel_rfl) (fun _ _ _ h => h) .all (r_move rfl rfl) ?_
      refine a_takegh (i := 19) rfl rfl rfl rfl rfl rfl ht3 (by kernel_rfl) (by kernel_rfl) (by kernel_rfl) (fun _ _ _ h => h) .all (r_indexAddr rfl rfl ha2 rfl Try.underlying32 Try.sizeOf48 (by omega) (by omega)) ?_
      refine a_takegh (i := 20) rfl rfl rfl rfl rfl rfl ht3 (by kernel_rfl) (by kernel_rfl) (by kernel_rfl) (fun _ _ _ h => h) .all (r_fieldAddr (k := 1) rfl rfl Try.underlying48 rfl Try.sizeOf3 rfl rfl) ?_
      refine a_takegh (i := 21) rfl rfl rfl rfl rfl rfl ht3 (by kernel_rfl) (by kernel_rfl) (by kernel_rfl) (fun _ _ _ h => h) .all (r_load (v := .int .i64 (g2.1.size)) rfl Try.isAgg3 rfl ((fun p hp => (hD _ hp)) _ hm2) (At.get (Row.elem hr2 hx2) (j := 1) rfl)) ?_
      refine a_takegh (i := 22) rfl rfl rfl rfl rfl rfl ht3 (by kernel_rfl) (by kernel_rfl) (by kernel_rfl) (fun _ _ _ h => h) .all (r_ne rfl rfl rfl) ?_
      refine a_take (i := 23) rfl rfl rfl rfl (by kernel_rfl) (by kernel_rfl) (by kernel_rfl) (fun _ _ _ h => h) .all (r_pickfh rfl rfl ht3 rfl) ?_
      have ht4 : decide (f1.1.size ≠ g2.1.size) = false := decide_eq_false (by simp [hz1])
      refine a_take (i := 24) rfl rfl rfl rfl (by kernel_rfl) (by kernel_rfl) (by kernel_rfl) (fun _ _ _ h => h) .all (r_move rfl rfl) ?_
      refine a_takegh (i := 25) rfl rfl rfl rfl rfl rfl ht4 (by kernel_rfl) (by kernel_rfl) (by kernel_rfl) (fun _ _ _ h => h) .all (r_move rfl rfl) ?_
      refine a_takegh (i := 26) rfl rfl rfl rfl rfl rfl ht4 (by kernel_rfl) (by kernel_rfl) (by kernel_rfl) (fun _ _ _ h => h) .all (r_move rfl rfl) ?_
      refine a_takegh (i := 27) rfl rfl rfl rfl rfl rfl ht4 (by kernel_rfl) (by kernel_rfl) (by kernel_rfl) (fun _ _ _ h => h) .all (r_indexAddr rfl rfl ha1 rfl Try.underlying32 Try.sizeOf48 (by omega) (by omega)) ?_
      refine a_takegh (i := 28) rfl rfl rfl rfl rfl rfl ht4 (by kernel_rfl) (by kernel_rfl) (by kernel_rfl) (fun _ _ _ h => h) .all (r_fieldAddr (k := 2) rfl rfl Try.underlying48 rfl Try.sizeOf3 rfl rfl) ?_
      refine a_takegh (i := 29) rfl rfl rfl rfl rfl rfl ht4 (by kernel_rfl) (by kernel_rfl) (by kernel_rfl) (fun _ _ _ h => h) .all (r_load (v := .int .i64 (f1.1.seq)) rfl Try.isAgg3 rfl ((fun p hp => (hD _ hp)) _ hm1) (At.get (Row.elem hr1 hx1) (j := 2) rfl)) ?_
      refine a_takegh (i := 30) rfl rfl rfl rfl rfl rfl ht4 (by kernel_rfl) (by kernel_rfl) (by kernel_rfl) (fun _ _ _ h => h) .all (r_move rfl rfl) ?_
      refine a_takegh (i := 31) rfl rfl rfl rfl rfl rfl ht4 (by kernel_rfl) (by kernel_rfl) (by kernel_rfl) (fun _ _ _ h => h) .all (r_move rfl rfl) ?_
      refine a_takegh (i := 32) rfl rfl rfl rfl rfl rfl ht4 (by kernel_rfl) (by kernel_rfl) (by kernel_rfl) (fun _ _ _ h => h) .all (r_indexAddr rfl rfl ha2 rfl Try.underlying32 Try.sizeOf48 (by omega) (by omega)) ?_
      refine a_takegh (i := 33) rfl rfl rfl rfl rfl rfl ht4 (by kernel_rfl) (by kernel_rfl) (by kernel_rfl) (fun _ _ _ h => h) .all (r_fieldAddr (k := 2) rfl rfl Try.underlying48 rfl Try.sizeOf3 rfl rfl) ?_
      refine a_takegh (i := 34) rfl rfl rfl rfl rfl rfl ht4 (by kernel_rfl) (by kernel_rfl) (by kernel_rfl) (fun _ _ _ h => h) .all (r_load (v := .int .i64 (g2.1.seq)) rfl Try.isAgg3 rfl ((fun p hp => (hD _ hp)) _ hm2) (At.get (Row.elem hr2 hx2) (j := 2) rfl)) ?_
      refine a_takegh (i := 35) rfl rfl rfl rfl rfl rfl ht4 (by kernel_rfl) (by kernel_rfl) (by kernel_rfl) (fun _ _ _ h => h) .all (r_ne rfl rfl rfl) ?_
      refine a_take (i := 36) rfl rfl rfl rfl (by kernel_rfl) (by kernel_rfl) (by kernel_rfl) (fun _ _ _ h => h) .all (r_pickfh rfl rfl ht4 rfl) ?_
      have ht5 : decide (f1.1.seq ≠ g2.1.seq) = false := decide_eq_false (by simp [hz2])
      refine a_take (i := 37) rfl rfl rfl rfl (by kernel_rfl) (by kernel_rfl) (by kernel_rfl) (fun _ _ _ h => h) .all (r_move rfl rfl) ?_
      refine a_takegh (i := 38) rfl rfl rfl rfl rfl rfl ht5 (by kernel_rfl) (by kernel_rfl) (by kernel_rfl) (fun _ _ _ h => h) .all (r_move rfl rfl) ?_
      refine a_takegh (i := 39) rfl rfl rfl rfl rfl rfl ht5 (by kernel_rfl) (by kernel_rfl) (by kernel_rfl) (fun _ _ _ h => h) .all (r_move rfl rfl) ?_
      refine a_takegh (i := 40) rfl rfl rfl rfl rfl rfl ht5 (by kernel_rfl) (by kernel_rfl) (by kernel_rfl) (fun _ _ _ h => h) .all (r_indexAddr rfl rfl ha1 rfl Try.underlying32 Try.sizeOf48 (by omega) (by omega)) ?_
      refine a_takegh (i := 41) rfl rfl rfl rfl rfl rfl ht5 (by kernel_rfl) (by kernel_rfl) (by kernel_rfl) (fun _ _ _ h => h) .all (r_fieldAddr (k := 3) rfl rfl Try.underlying48 rfl Try.sizeOf44 rfl rfl) ?_
      refine a_takegh (i := 42) rfl rfl rfl rfl rfl rfl ht5 (by kernel_rfl) (by kernel_rfl) (by kernel_rfl) (fun _ _ _ h => h) .all (r_load (v := .slice f1.1.pa f1.1.pn f1.1.pc) rfl Try.isAgg44 rfl ((fun p hp => (hD _ hp)) _ hm1) (At.get (Row.elem hr1 hx1) (j := 3) rfl)) ?_
      refine a_takegh (i := 43) rfl rfl rfl rfl rfl rfl ht5 (by kernel_rfl) (by kernel_rfl) (by kernel_rfl) (fun _ _ _ h => h) .all (r_len rfl rfl Try.underlying44) ?_
      refine a_takegh (i := 44) rfl rfl rfl rfl rfl rfl ht5 (by kernel_rfl) (by kernel_rfl) (by kernel_rfl) (fun _ _ _ h => h) .all (r_move rfl rfl) ?_
      refine a_takegh (i := 45) rfl rfl rfl rfl rfl rfl ht5 (by kernel_rfl) (by kernel_rfl) (by kernel_rfl) (fun _ _ _ h => h) .all (r_move rfl rfl) ?_
      refine a_takegh (i := 46) rfl rfl rfl rfl rfl rfl ht5 (by kernel_rfl) (by kernel_rfl) (by kernel_rfl) (fun _ _ _ h => h) .all (r_indexAddr rfl rfl ha2 rfl Try.underlying32 Try.sizeOf48 (by omega) (by omega)) ?_
      refine a_takegh (i := 47) rfl rfl rfl rfl rfl rfl ht5 (by kernel_rfl) (by kernel_rfl) (by kernel_rfl) (fun _ _ _ h => h) .all (r_fieldAddr (k := 3) rfl rfl Try.underlying48 rfl Try.sizeOf44 rfl rfl) ?_
      refine a_takegh (i := 48) rfl rfl rfl rfl rfl rfl ht5 (by kernel_rfl) (by kernel_rfl) (by kernel_rfl) (fun _ _ _ h => h) .all (r_load (v := .slice g2.1.pa g2.1.pn g2.1.pc) rfl Try.isAgg44 rfl ((fun p hp => (hD _ hp)) _ hm2) (At.get (Row.elem hr2 hx2) (j := 3) rfl)) ?_
      refine a_takegh (i := 49) rfl rfl rfl rfl rfl rfl ht5 (by kernel_rfl) (by kernel_rfl) (by kernel_rfl) (fun _ _ _ h => h) .all (r_len rfl rfl Try.underlying44) ?_
      refine a_takegh (i := 50) rfl rfl rfl rfl rfl rfl ht5 (by kernel_rfl) (by kernel_rfl) (by kernel_rfl) (fun _ _ _ h => h) .all (r_ne rfl rfl rfl) ?_
      refine a_take (i := 51) rfl rfl rfl rfl (by kernel_rfl) (by kernel_rfl) (by kernel_rfl) (fun _ _ _ h => h) .all (r_pickfh rfl rfl ht5 rfl) ?_
      refine a_done (by kernel_rfl) ?_
      refine Then.slots (.cons (t := 0) rfl (.cons (t := 1) rfl (.cons (t := 5) rfl (.cons (t := 69) rfl .nil)))) ?_
      refine e_next ?_
      refine t_decf rfl (by omega) ?_
      refine t_skip ?_
      refine e_next ?_
      refine t_seq ?_
      refine t_region ?_
      refine l_op rfl (o_val rfl rfl (r_assign rfl rfl) ?_)
      refine l_nil ?_
      refine e_next ?_
      refine t_block ?_
      refine t_loop (fun (mz : Nat) aa ww => ∃ (k : Int), mz = (f1.1.pn - k.toNat) ∧ (0 ≤ k) ∧ (k ≤ f1.1.pn) ∧ Sl 97 [(0, .slice a1 n1 c1), (1, .slice a2 n2 c2), (5, .int .i64 (i)), (6, .int .i64 (k))] aa ∧ Holds E H ww) (f1.1.pn) ?_ ?_
      · intro aa ww hL hH
        exact ⟨0, rfl, by omega, by omega, hL.sub (.cons (t := 0) rfl (.cons (t := 1) rfl (.cons (t := 5) rfl (.cons (t := 6) rfl .nil)))), hH.hs .all⟩
      · skip
        rintro mz aa ww ⟨k, hmz, k0, k1, hL, hH⟩
        refine Then.run hL hH ?_
        clear hL hH aa ww
        refine t_seq ?_
        refine t_seq ?_
        refine t_region ?_
        refine l_op rfl (o_val rfl rfl (r_move rfl rfl) ?_)
        refine l_op rfl (o_val rfl rfl (r_move rfl rfl) ?_)
        refine l_op rfl (o_val rfl rfl (r_move rfl rfl) ?_)
        refine l_op rfl (o_val rfl rfl (r_indexAddr rfl rfl ha1 rfl Try.underlying32 Try.sizeOf48 (by omega) (by omega)) ?_)
        refine l_op rfl (o_val rfl rfl (r_fieldAddr (k := 3) rfl rfl Try.underlying48 rfl Try.sizeOf44 rfl rfl) ?_)
        refine l_op rfl (o_val rfl rfl (r_load (v := .slice f1.1.pa f1.1.pn f1.1.pc) rfl Try.isAgg44 rfl ((fun p hp => (hD _ hp)) _ hm1) (At.get (Row.elem hr1 hx1) (j := 3) rfl)) ?_)
        refine l_op rfl (o_val rfl rfl (r_len rfl rfl Try.underlying44) ?_)
        refine l_op rfl (o_val rfl rfl (r_lt rfl rfl rfl) ?_)
        refine l_nil ?_
        refine e_next ?_
        refine t_dec rfl (fun c77 => ?_) (fun c77 => ?_)
        · skip
          refine t_skip ?_
          refine e_next ?_
          refine t_seq ?_
          refine t_block ?_
          refine t_seq ?_
          refine t_draw (n := 17) .all rfl (by kernel_rfl) ?_
          refine a_take (i := 0) rfl rfl rfl rfl (by kernel_rfl) (by kernel_rfl) (by kernel_rfl) (fun _ _ _ h => h) .all (r_move rfl rfl) ?_
          refine a_take (i := 1) rfl rfl rfl rfl (by kernel_rfl) (by kernel_rfl) (by kernel_rfl) (fun _ _ _ h => h) .all (r_move rfl rfl) ?_
          refine a_take (i := 2) rfl rfl rfl rfl (by kernel_rfl) (by kernel_rfl) (by kernel_rfl) (fun _ _ _ h => h) .all (r_indexAddr rfl rfl ha1 rfl Try.underlying32 Try.sizeOf48 (by omega) (by omega)) ?_
          refine a_take (i := 3) rfl rfl rfl rfl (by kernel_rfl) (by kernel_rfl) (by kernel_rfl) (fun _ _ _ h => h) .all (r_fieldAddr (k := 3) rfl rfl Try.underlying48 rfl Try.sizeOf44 rfl rfl) ?_
          refine a_take (i := 4) rfl rfl rfl rfl (by kernel_rfl) (by kernel_rfl) (by kernel_rfl) (fun _ _ _ h => h) .all (r_load (v := .slice f1.1.pa f1.1.pn f1.1.pc) rfl Try.isAgg44 rfl ((fun p hp => (hD _ hp)) _ hm1) (At.get (Row.elem hr1 hx1) (j := 3) rfl)) ?_
          refine a_take (i := 5) rfl rfl rfl rfl (by kernel_rfl) (by kernel_rfl) (by kernel_rfl) (fun _ _ _ h => h) .all (r_move rfl rfl) ?_
          obtain ⟨b6, o6, cs6, T6, f6, ha6, hm6, hr6⟩ := SliceAt.opn hrepf1.at_ (by omega)
          obtain ⟨p3, hx3⟩ : ∃ x, f1.2.ps[Int.toNat (k)]? = some x := getSome (by have := hrepf1.at_.len; omega)
          refine a_take (i := 6) rfl rfl rfl rfl (by kernel_rfl) (by kernel_rfl) (by kernel_rfl) (fun _ _ _ h => h) .all (r_indexAddr rfl rfl ha6 rfl Try.underlying44 Try.sizeOf66 (by omega) (by omega)) ?_
          refine a_take (i := 7) rfl rfl rfl rfl (by kernel_rfl) (by kernel_rfl) (by kernel_rfl) (fun _ _ _ h => h) .all (r_loadAgg rfl Try.isAgg66 Try.sizeOf66 rfl ((fun p hp => (hD _ hp)) _ hm6) (Row.elem hr6 hx3) rfl) ?_
          refine a_take (i := 8) rfl rfl rfl rfl (by kernel_rfl) (by kernel_rfl) (by kernel_rfl) (fun _ _ _ h => h) .all (r_move rfl rfl) ?_
          refine a_take (i := 9) rfl rfl rfl rfl (by kernel_rfl) (by kernel_rfl) (by kernel_rfl) (fun _ _ _ h => h) .all (r_move rfl rfl) ?_
          refine a_take (i := 10) rfl rfl rfl rfl (by kernel_rfl) (by kernel_rfl) (by kernel_rfl) (fun _ _ _ h => h) .all (r_indexAddr rfl rfl ha2 rfl Try.underlying32 Try.sizeOf48 (by omega) (by omega)) ?_
          refine a_take (i := 11) rfl rfl rfl rfl (by kernel_rfl) (by kernel_rfl) (by kernel_rfl) (fun _ _ _ h => h) .all (r_fieldAddr (k := 3) rfl rfl Try.underlying48 rfl Try.sizeOf44 rfl rfl) ?_
          refine a_take (i := 12) rfl rfl rfl rfl (by kernel_rfl) (by kernel_rfl) (by kernel_rfl) (fun _ _ _ h => h) .all (r_load (v := .slice g2.1.pa g2.1.pn g2.1.pc) rfl Try.isAgg44 rfl ((fun p hp => (hD _ hp)) _ hm2) (At.get (Row.elem hr2 hx2) (j := 3) rfl)) ?_
          refine a_take (i := 13) rfl rfl rfl rfl (by kernel_rfl) (by kernel_rfl) (by kernel_rfl) (fun _ _ _ h => h) .all (r_move rfl rfl) ?_
          obtain ⟨b7, o7, cs7, T7, f7, ha7, hm7, hr7⟩ := SliceAt.opn hrepg2.at_ (by omega)
          obtain ⟨p4, hx4⟩ : ∃ x, g2.2.ps[Int.toNat (k)]? = some x := getSome (by have := hrepg2.at_.len; omega)
          have hpe : p3 = p4 := Option.some.inj (hx3.symm.trans (by rw [hq2]; exact hx4))
          have hpw1 : -9223372036854775808 ≤ p3.n ∧ p3.n ≤ 9223372036854775807 := by have := sizeGo_piece htot hx3; omega
          have hpw2 : -9223372036854775808 ≤ p4.n ∧ p4.n ≤ 9223372036854775807 := by rw [← hpe]; exact hpw1
          refine a_take (i := 14) rfl rfl rfl rfl (by kernel_rfl) (by kernel_rfl) (by kernel_rfl) (fun _ _ _ h => h) .all (r_indexAddr rfl rfl ha7 rfl Try.underlying44 Try.sizeOf66 (by omega) (by omega)) ?_
          refine a_take (i := 15) rfl rfl rfl rfl (by kernel_rfl) (by kernel_rfl) (by kernel_rfl) (fun _ _ _ h => h) .all (r_loadAgg rfl Try.isAgg66 Try.sizeOf66 rfl ((fun p hp => (hD _ hp)) _ hm7) (Row.elem hr7 hx4) rfl) ?_
          refine a_take (i := 16) rfl rfl rfl rfl (by kernel_rfl) (by kernel_rfl) (by kernel_rfl) (fun _ _ _ h => h) .all (r_neDeep (m := 3) rfl rfl rfl (by kernel_rfl) (by kernel_rfl) rfl (by kernel_rfl) (by kernel_rfl) (keyLits_piece _ hpw1) (keyLits_piece _ hpw2) pieceLits_inj) ?_
          refine a_done (by kernel_rfl) ?_
          refine Then.slots (.cons (t := 0) rfl (.cons (t := 1) rfl (.cons (t := 5) rfl (.cons (t := 6) rfl (.cons (t := 96) rfl .nil))))) ?_
          refine e_next ?_
          refine t_decf rfl (by rw [hpe]; simp) ?_
          refine t_skip ?_
          refine e_block _ ?_
          refine e_next ?_
          refine t_region ?_
          refine l_op rfl (o_val rfl rfl (r_move rfl rfl) ?_)
          refine l_op rfl (o_val rfl rfl (r_add rfl rfl rfl (by omega) (by omega)) ?_)
          refine l_op rfl (o_val rfl rfl (r_assign rfl rfl) ?_)
          refine l_nil ?_
          intro aa ww hL hH
          exact ⟨_, by omega, k + 1, rfl, by omega, by omega, hL.sub (.cons (t := 0) rfl (.cons (t := 1) rfl (.cons (t := 5) rfl (.cons (t := 6) rfl .nil)))), hH.hs .all⟩
        · skip
          refine t_exit ?_
          refine e_pass_exit ?_
          refine e_pass_exit ?_
          refine e_block_here ?_
          refine e_block _ ?_
          refine e_next ?_
          refine t_region ?_
          refine l_op rfl (o_val rfl rfl (r_move rfl rfl) ?_)
          refine l_op rfl (o_val rfl rfl (r_add rfl rfl rfl (by omega) (by omega)) ?_)
          refine l_op rfl (o_val rfl rfl (r_assign rfl rfl) ?_)
          refine l_nil ?_
          intro aa ww hL hH
          exact ⟨_, by omega, i + 1, rfl, by omega, by omega, hL.sub (.cons (t := 0) rfl (.cons (t := 1) rfl (.cons (t := 5) rfl .nil))), hH.hs .all⟩
    · skip
      refine t_exit ?_
      refine e_pass_exit ?_
      refine e_pass_exit ?_
      refine e_block_here ?_
      refine e_next ?_
      refine t_seq ?_
      refine t_region ?_
      refine l_op rfl (o_val rfl rfl (r_assign rfl rfl) ?_)
      refine l_nil ?_
      refine e_next ?_
      refine t_ret ?_
      exact e_ret rfl (.tmp rfl .nil) ⟨rfl, rfl⟩

end Go.Sal.Nm
