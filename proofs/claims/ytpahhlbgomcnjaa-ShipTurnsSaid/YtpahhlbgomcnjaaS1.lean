/- The walks: printed by a program of this repo (wip/gen). -/
import Derived.Test.YtpahhlbgomcnjaaDigSet
import Derived.Test.YtpahhlbgomcnjaaSCmp
set_option linter.unusedVariables false
set_option linter.unusedSimpArgs false
namespace Go.Sal.Sh
open Go Go.Sal Go.Proofs
set_option maxHeartbeats 2000000 in
set_option maxRecDepth 100000 in
theorem few_c {E : Env} {H : Heap} {a : Option Addr} {n c : Nat} (hc : n ≤ c) :
    Fn Try.prog 5 [.slice a n c] E H (fun v H2 => v = .slice a (min n 200) c ∧ H2 = H) := by
  refine Fn.of_body (N := 9) Try.func5 rfl rfl rfl ?_
  refine t_seq ?_
  refine t_region ?_
  refine l_op rfl (o_val rfl rfl (r_assign rfl rfl) ?_)
  refine l_nil ?_
  refine e_next ?_
  refine t_seq ?_
  refine t_seq ?_
  refine t_region ?_
  refine l_op rfl (o_val rfl rfl (r_move rfl rfl) ?_)
  refine l_op rfl (o_val rfl rfl (r_len rfl rfl Try.underlying22) ?_)
  refine l_op rfl (o_val rfl rfl (r_gt rfl rfl rfl) ?_)
  refine l_nil ?_
  refine e_next ?_
  refine t_dec rfl (fun c5 => ?_) (fun c5 => ?_)
  · skip
    refine t_seq ?_
    refine t_region ?_
    refine l_op rfl (o_val rfl rfl (r_move rfl rfl) ?_)
    refine l_op rfl (o_val rfl rfl (r_sliceTo rfl rfl rfl Try.underlying22 Try.sizeOf30 (by omega) (by omega)) ?_)
    refine l_op rfl (o_val rfl rfl (r_assign rfl rfl) ?_)
    refine l_nil ?_
    refine e_next ?_
    refine t_ret ?_
    refine e_pass_ret ?_
    exact e_ret rfl (.tmp rfl .nil) ⟨(by rw [show min n 200 = 200 by omega]; rfl), rfl⟩
  · skip
    refine t_skip ?_
    refine e_next ?_
    refine t_seq ?_
    refine t_region ?_
    refine l_op rfl (o_val rfl rfl (r_move rfl rfl) ?_)
    refine l_op rfl (o_val rfl rfl (r_assign rfl rfl) ?_)
    refine l_nil ?_
    refine e_next ?_
    refine t_ret ?_
    exact e_ret rfl (.tmp rfl .nil) ⟨(by rw [show min n 200 = n by omega]; rfl), rfl⟩

set_option maxHeartbeats 2000000 in
set_option maxRecDepth 100000 in
theorem less_c {E : Env} {H : Heap} {x y : Dig} :
    Fn Try.prog 26 [.agg (encDig x).toArray, .agg (encDig y).toArray] E H (fun v H2 => v = .bool (digLt x y) ∧ ∃ X, H2 = X ++ H) := by
  refine Fn.of_body (N := 24) Try.func26 rfl rfl rfl ?_
  refine t_seq ?_
  refine t_region ?_
  refine l_op rfl (o_box rfl rfl rfl rfl rfl ?_)
  intro b1
  refine l_op rfl (o_box rfl rfl rfl rfl rfl ?_)
  intro b2
  refine l_op rfl (o_val rfl rfl (r_assign rfl rfl) ?_)
  refine l_nil ?_
  refine e_next ?_
  refine t_seq ?_
  refine t_seq ?_
  refine t_region ?_
  refine l_op rfl (o_val rfl rfl (r_assign rfl rfl) ?_)
  refine l_nil ?_
  refine e_next ?_
  refine t_block ?_
  refine t_loop (fun (mz : Nat) aa ww => ∃ (i : Nat), mz = 32 - i ∧ (i ≤ 32) ∧ (x.list.take i = y.list.take i) ∧ Sl 24 [(2, .pointer (some ⟨b1, 0, none⟩)), (3, .pointer (some ⟨b2, 0, none⟩)), (5, .int .i64 (((i : Nat) : Int)))] aa ∧ Holds E ((b2, .cells (encDig y).toArray 30 (0, 0)) :: ((b1, .cells (encDig x).toArray 30 (0, 0)) :: H)) ww) (32) ?_ ?_
  · intro aa ww hL hH
    exact ⟨0, rfl, by omega, rfl, hL.sub (.cons (t := 2) rfl (.cons (t := 3) rfl (.eq (t := 5) rfl (congrArg (Value.int .i64) (by first | rfl | omega | (simp only [Int.toNat_natCast]; omega))) .nil))), hH.hs (.cell .head (.cell .head .all))⟩
  · skip
    rintro mz aa ww ⟨i, hmz, hi, ht, hL, hH⟩
    refine Then.run hL hH ?_
    clear hL hH aa ww
    refine t_seq ?_
    refine t_seq ?_
    refine t_region ?_
    refine l_op rfl (o_val rfl rfl (r_move rfl rfl) ?_)
    refine l_op rfl (o_val rfl rfl (r_lt rfl rfl rfl) ?_)
    refine l_nil ?_
    refine e_next ?_
    refine t_dec rfl (fun c7 => ?_) (fun c7 => ?_)
    · skip
      refine t_skip ?_
      refine e_next ?_
      refine t_seq ?_
      refine t_block ?_
      refine t_seq ?_
      refine t_draw (n := 7) .all rfl (by kernel_rfl) ?_
      refine a_take (i := 0) rfl rfl rfl rfl (by kernel_rfl) (by kernel_rfl) (by kernel_rfl) (fun _ _ _ h => h) .all (r_move rfl rfl) ?_
      refine a_take (i := 1) rfl rfl rfl rfl (by kernel_rfl) (by kernel_rfl) (by kernel_rfl) (fun _ _ _ h => h) .all (r_indexAddrA rfl rfl rfl Try.underlying30 Try.sizeOf5 (by omega) (by omega)) ?_
      refine a_take (i := 2) rfl rfl rfl rfl (by kernel_rfl) (by kernel_rfl) (by kernel_rfl) (fun _ _ _ h => h) .all (r_load (v := u8 (x.list[i]!)) rfl Try.isAgg5 rfl (List.mem_cons_of_mem _ List.mem_cons_self) (arr_get (f := u8) (l := x.list) (i := i) (by omega) (by have hh_ : (x.list).length = 32 := (Dig.list_length x); omega))) ?_
      refine a_take (i := 3) rfl rfl rfl rfl (by kernel_rfl) (by kernel_rfl) (by kernel_rfl) (fun _ _ _ h => h) .all (r_move rfl rfl) ?_
      refine a_take (i := 4) rfl rfl rfl rfl (by kernel_rfl) (by kernel_rfl) (by kernel_rfl) (fun _ _ _ h => h) .all (r_indexAddrA rfl rfl rfl Try.underlying30 Try.sizeOf5 (by omega) (by omega)) ?_
      refine a_take (i := 5) rfl rfl rfl rfl (by kernel_rfl) (by kernel_rfl) (by kernel_rfl) (fun _ _ _ h => h) .all (r_load (v := u8 (y.list[i]!)) rfl Try.isAgg5 rfl List.mem_cons_self (arr_get (f := u8) (l := y.list) (i := i) (by omega) (by have hh_ : (y.list).length = 32 := (Dig.list_length y); omega))) ?_
      refine a_take (i := 6) rfl rfl rfl rfl (by kernel_rfl) (by kernel_rfl) (by kernel_rfl) (fun _ _ _ h => h) .all (r_ne rfl rfl rfl) ?_
      refine a_done (by kernel_rfl) ?_
      refine e_next ?_
      refine t_dec rfl (fun c16 => ?_) (fun c16 => ?_)
      · skip
        refine t_seq ?_
        refine t_draw (n := 8) .all rfl (by kernel_rfl) ?_
        refine a_take (i := 0) rfl rfl rfl rfl (by kernel_rfl) (by kernel_rfl) (by kernel_rfl) (fun _ _ _ h => h) .all (r_move rfl rfl) ?_
        refine a_take (i := 1) rfl rfl rfl rfl (by kernel_rfl) (by kernel_rfl) (by kernel_rfl) (fun _ _ _ h => h) .all (r_indexAddrA rfl rfl rfl Try.underlying30 Try.sizeOf5 (by omega) (by omega)) ?_
        refine a_take (i := 2) rfl rfl rfl rfl (by kernel_rfl) (by kernel_rfl) (by kernel_rfl) (fun _ _ _ h => h) .all (r_load (v := u8 (x.list[i]!)) rfl Try.isAgg5 rfl (List.mem_cons_of_mem _ List.mem_cons_self) (arr_get (f := u8) (l := x.list) (i := i) (by omega) (by have hh_ : (x.list).length = 32 := (Dig.list_length x); omega))) ?_
        refine a_take (i := 3) rfl rfl rfl rfl (by kernel_rfl) (by kernel_rfl) (by kernel_rfl) (fun _ _ _ h => h) .all (r_move rfl rfl) ?_
        refine a_take (i := 4) rfl rfl rfl rfl (by kernel_rfl) (by kernel_rfl) (by kernel_rfl) (fun _ _ _ h => h) .all (r_indexAddrA rfl rfl rfl Try.underlying30 Try.sizeOf5 (by omega) (by omega)) ?_
        refine a_take (i := 5) rfl rfl rfl rfl (by kernel_rfl) (by kernel_rfl) (by kernel_rfl) (fun _ _ _ h => h) .all (r_load (v := u8 (y.list[i]!)) rfl Try.isAgg5 rfl List.mem_cons_self (arr_get (f := u8) (l := y.list) (i := i) (by omega) (by have hh_ : (y.list).length = 32 := (Dig.list_length y); omega))) ?_
        refine a_take (i := 6) rfl rfl rfl rfl (by kernel_rfl) (by kernel_rfl) (by kernel_rfl) (fun _ _ _ h => h) .all (r_lt rfl rfl rfl) ?_
        refine a_take (i := 7) rfl rfl rfl rfl (by kernel_rfl) (by kernel_rfl) (by kernel_rfl) (fun _ _ _ h => h) .all (r_assign rfl rfl) ?_
        refine a_done (by kernel_rfl) ?_
        refine e_next ?_
        refine t_ret ?_
        refine e_block_ret ?_
        refine e_pass_ret ?_
        refine e_pass_ret ?_
        refine e_block_ret ?_
        refine e_pass_ret ?_
        exact e_ret rfl (.tmp rfl .nil) ⟨congrArg Value.bool (digLt_bang ht (by omega) c16).symm, Pre.ex (.cons (.cons .refl))⟩
      · skip
        refine t_skip ?_
        refine e_block _ ?_
        refine e_next ?_
        refine t_region ?_
        refine l_op rfl (o_val rfl rfl (r_move rfl rfl) ?_)
        refine l_op rfl (o_val rfl rfl (r_add rfl rfl rfl (by omega) (by omega)) ?_)
        refine l_op rfl (o_val rfl rfl (r_assign rfl rfl) ?_)
        refine l_nil ?_
        intro aa ww hL hH
        exact ⟨_, by omega, (i + 1), rfl, by omega, (dig_take_bang ht (by omega) c16), hL.sub (.cons (t := 2) rfl (.cons (t := 3) rfl (.eq (t := 5) rfl (congrArg (Value.int .i64) (by first | rfl | omega | (simp only [Int.toNat_natCast]; omega))) .nil))), hH.hs (.cell .head (.cell .head .all))⟩
    · skip
      refine t_exit ?_
      refine e_pass_exit ?_
      refine e_pass_exit ?_
      refine e_block_here ?_
      refine e_next ?_
      refine t_seq ?_
      refine t_region ?_
      refine l_op rfl (o_val rfl rfl (r_assign rfl rfl) ?_)
      refine l_nil ?_
      refine e_next ?_
      refine t_ret ?_
      exact e_ret rfl (.tmp rfl .nil) ⟨congrArg Value.bool (digLt_all ht (by omega)).symm, Pre.ex (.cons (.cons .refl))⟩

set_option maxHeartbeats 2000000 in
set_option maxRecDepth 100000 in
theorem in_c {E : Env} {H : Heap} {a : Option Addr} {n c : Nat} {l : List Dig} (hs : SliceAt H encDig 32 a n c l) {d : Dig} (hl : n ≤ 1073741824) :
    Fn Try.prog 14 [.slice a n c, .agg (encDig d).toArray] E H (fun v H2 => v = .bool (decide (d ∈ l)) ∧ ∃ X, H2 = X ++ H) := by
  have hln := hs.len
  refine Fn.of_body (N := 18) Try.func14 rfl rfl rfl ?_
  refine t_seq ?_
  refine t_region ?_
  refine l_op rfl (o_box rfl rfl rfl rfl rfl ?_)
  intro b1
  refine l_op rfl (o_val rfl rfl (r_assign rfl rfl) ?_)
  refine l_nil ?_
  refine e_next ?_
  refine t_seq ?_
  refine t_seq ?_
  refine t_region ?_
  refine l_op rfl (o_val rfl rfl (r_assign rfl rfl) ?_)
  refine l_nil ?_
  refine e_next ?_
  refine t_block ?_
  refine t_loop (fun (mz : Nat) aa ww => ∃ (i : Nat), mz = n - i ∧ (i ≤ n) ∧ (d ∉ l.take i) ∧ Sl 18 [(0, .slice a n c), (3, .pointer (some ⟨b1, 0, none⟩)), (5, .int .i64 (((i : Nat) : Int)))] aa ∧ Holds E ((b1, .cells (encDig d).toArray 30 (0, 0)) :: H) ww) (n) ?_ ?_
  · intro aa ww hL hH
    exact ⟨0, rfl, by omega, by simp, hL.sub (.cons (t := 0) rfl (.cons (t := 3) rfl (.eq (t := 5) rfl (congrArg (Value.int .i64) (by first | rfl | omega | (simp only [Int.toNat_natCast]; omega))) .nil))), hH.hs (.cell .head .all)⟩
  · skip
    rintro mz aa ww ⟨i, hmz, hi, hn, hL, hH⟩
    refine Then.run hL hH ?_
    clear hL hH aa ww
    refine t_seq ?_
    refine t_seq ?_
    refine t_region ?_
    refine l_op rfl (o_val rfl rfl (r_move rfl rfl) ?_)
    refine l_op rfl (o_val rfl rfl (r_move rfl rfl) ?_)
    refine l_op rfl (o_val rfl rfl (r_len rfl rfl Try.underlying22) ?_)
    refine l_op rfl (o_val rfl rfl (r_lt rfl rfl rfl) ?_)
    refine l_nil ?_
    refine e_next ?_
    refine t_dec rfl (fun c9 => ?_) (fun c9 => ?_)
    · skip
      refine t_skip ?_
      refine e_next ?_
      refine t_seq ?_
      refine t_block ?_
      refine t_seq ?_
      refine t_draw (n := 6) .all rfl (by kernel_rfl) ?_
      refine a_take (i := 0) rfl rfl rfl rfl (by kernel_rfl) (by kernel_rfl) (by kernel_rfl) (fun _ _ _ h => h) .all (r_move rfl rfl) ?_
      refine a_take (i := 1) rfl rfl rfl rfl (by kernel_rfl) (by kernel_rfl) (by kernel_rfl) (fun _ _ _ h => h) .all (r_move rfl rfl) ?_
      obtain ⟨b2, o2, cs2, T2, fz2, ha2, hm2, hr2⟩ := SliceAt.opn hs (by omega)
      refine a_take (i := 2) rfl rfl rfl rfl (by kernel_rfl) (by kernel_rfl) (by kernel_rfl) (fun _ _ _ h => h) .all (r_indexAddr rfl rfl ha2 rfl Try.underlying22 Try.sizeOf30 (by omega) (by omega)) ?_
      refine a_take (i := 3) rfl rfl rfl rfl (by kernel_rfl) (by kernel_rfl) (by kernel_rfl) (fun _ _ _ h => h) .all (r_loadAgg rfl Try.isAgg30 Try.sizeOf30 rfl ((fun p hp => (List.mem_cons_of_mem _ hp)) _ hm2) (Row.elem hr2 (getBangI (l := l) (j := (((i : Nat) : Int))) (i := i) (by first | rfl | omega) (by have hh_ := SliceAt.len hs; omega))) rfl) ?_
      refine a_take (i := 4) rfl rfl rfl rfl (by kernel_rfl) (by kernel_rfl) (by kernel_rfl) (fun _ _ _ h => h) .all (r_loadAgg rfl Try.isAgg30 Try.sizeOf30 rfl List.mem_cons_self (At.self _) rfl) ?_
      refine a_take (i := 5) rfl rfl rfl rfl (by kernel_rfl) (by kernel_rfl) (by kernel_rfl) (fun _ _ _ h => h) .all (r_eqDeep (m := 2) rfl rfl rfl (by kernel_rfl) (by kernel_rfl) rfl (by kernel_rfl) (by kernel_rfl) (keyLits_dig Try.underlying30 Try.underlying5 (by kernel_rfl) (by kernel_rfl) _ 0) (keyLits_dig Try.underlying30 Try.underlying5 (by kernel_rfl) (by kernel_rfl) _ 0) digLits_inj) ?_
      refine a_done (by kernel_rfl) ?_
      refine e_next ?_
      refine t_dec rfl (fun c17 => ?_) (fun c17 => ?_)
      · skip
        refine t_seq ?_
        refine t_region ?_
        refine l_op rfl (o_val rfl rfl (r_assign rfl rfl) ?_)
        refine l_nil ?_
        refine e_next ?_
        refine t_ret ?_
        refine e_block_ret ?_
        refine e_pass_ret ?_
        refine e_pass_ret ?_
        refine e_block_ret ?_
        refine e_pass_ret ?_
        exact e_ret rfl (.tmp rfl .nil) ⟨congrArg Value.bool (decide_eq_true (by rw [← c17]; exact mem_bang (by omega))).symm, Pre.ex (.cons .refl)⟩
      · skip
        refine t_skip ?_
        refine e_block _ ?_
        refine e_next ?_
        refine t_region ?_
        refine l_op rfl (o_val rfl rfl (r_move rfl rfl) ?_)
        refine l_op rfl (o_val rfl rfl (r_add rfl rfl rfl (by omega) (by omega)) ?_)
        refine l_op rfl (o_val rfl rfl (r_assign rfl rfl) ?_)
        refine l_nil ?_
        intro aa ww hL hH
        exact ⟨_, by omega, (i + 1), rfl, by omega, (notin_step hn (by omega) c17), hL.sub (.cons (t := 0) rfl (.cons (t := 3) rfl (.eq (t := 5) rfl (congrArg (Value.int .i64) (by first | rfl | omega | (simp only [Int.toNat_natCast]; omega))) .nil))), hH.hs (.cell .head .all)⟩
    · skip
      refine t_exit ?_
      refine e_pass_exit ?_
      refine e_pass_exit ?_
      refine e_block_here ?_
      refine e_next ?_
      refine t_seq ?_
      refine t_region ?_
      refine l_op rfl (o_val rfl rfl (r_assign rfl rfl) ?_)
      refine l_nil ?_
      refine e_next ?_
      refine t_ret ?_
      exact e_ret rfl (.tmp rfl .nil) ⟨congrArg Value.bool (decide_eq_false (by rw [List.take_of_length_le (by omega)] at hn; exact hn)).symm, Pre.ex (.cons .refl)⟩

set_option maxHeartbeats 2000000 in
set_option maxRecDepth 100000 in
theorem same_c {E : Env} {H : Heap} {a : Option Addr} {n c : Nat} {l : List Dig} (hs : SliceAt H encDig 32 a n c l) {ba : Option Addr} {bn bc : Nat} {m : List Dig} (hm : SliceAt H encDig 32 ba bn bc m) (hl : n ≤ 1073741824) :
    Fn Try.prog 6 [.slice a n c, .slice ba bn bc] E H (fun v H2 => v = .bool (decide (l = m)) ∧ H2 = H) := by
  have hln := hs.len
  have hlm := hm.len
  refine Fn.of_body (N := 26) Try.func6 rfl rfl rfl ?_
  refine t_seq ?_
  refine t_region ?_
  refine l_op rfl (o_val rfl rfl (r_assign rfl rfl) ?_)
  refine l_nil ?_
  refine e_next ?_
  refine t_seq ?_
  refine t_seq ?_
  refine t_region ?_
  refine l_op rfl (o_val rfl rfl (r_move rfl rfl) ?_)
  refine l_op rfl (o_val rfl rfl (r_len rfl rfl Try.underlying22) ?_)
  refine l_op rfl (o_val rfl rfl (r_move rfl rfl) ?_)
  refine l_op rfl (o_val rfl rfl (r_len rfl rfl Try.underlying22) ?_)
  refine l_op rfl (o_val rfl rfl (r_ne rfl rfl rfl) ?_)
  refine l_nil ?_
  refine e_next ?_
  refine t_dec rfl (fun c10 => ?_) (fun c10 => ?_)
  · skip
    refine t_seq ?_
    refine t_region ?_
    refine l_op rfl (o_val rfl rfl (r_assign rfl rfl) ?_)
    refine l_nil ?_
    refine e_next ?_
    refine t_ret ?_
    refine e_pass_ret ?_
    exact e_ret rfl (.tmp rfl .nil) ⟨congrArg Value.bool (decide_eq_false (fun e => by subst e; omega)).symm, rfl⟩
  · skip
    refine t_skip ?_
    refine e_next ?_
    refine t_seq ?_
    refine t_seq ?_
    refine t_region ?_
    refine l_op rfl (o_val rfl rfl (r_assign rfl rfl) ?_)
    refine l_nil ?_
    refine e_next ?_
    refine t_block ?_
    refine t_loop (fun (mz : Nat) aa ww => ∃ (i : Nat), mz = n - i ∧ (i ≤ n) ∧ (l.take i = m.take i) ∧ Sl 26 [(0, .slice a n c), (1, .slice ba bn bc), (5, .int .i64 (((i : Nat) : Int)))] aa ∧ Holds E H ww) (n) ?_ ?_
    · intro aa ww hL hH
      exact ⟨0, rfl, by omega, rfl, hL.sub (.cons (t := 0) rfl (.cons (t := 1) rfl (.eq (t := 5) rfl (congrArg (Value.int .i64) (by first | rfl | omega | (simp only [Int.toNat_natCast]; omega))) .nil))), hH.hs .all⟩
    · skip
      rintro mz aa ww ⟨i, hmz, hi, ht, hL, hH⟩
      refine Then.run hL hH ?_
      clear hL hH aa ww
      refine t_seq ?_
      refine t_seq ?_
      refine t_region ?_
      refine l_op rfl (o_val rfl rfl (r_move rfl rfl) ?_)
      refine l_op rfl (o_val rfl rfl (r_move rfl rfl) ?_)
      refine l_op rfl (o_val rfl rfl (r_len rfl rfl Try.underlying22) ?_)
      refine l_op rfl (o_val rfl rfl (r_lt rfl rfl rfl) ?_)
      refine l_nil ?_
      refine e_next ?_
      refine t_dec rfl (fun c14 => ?_) (fun c14 => ?_)
      · skip
        refine t_skip ?_
        refine e_next ?_
        refine t_seq ?_
        refine t_block ?_
        refine t_seq ?_
        refine t_draw (n := 9) .all rfl (by kernel_rfl) ?_
        refine a_take (i := 0) rfl rfl rfl rfl (by kernel_rfl) (by kernel_rfl) (by kernel_rfl) (fun _ _ _ h => h) .all (r_move rfl rfl) ?_
        refine a_take (i := 1) rfl rfl rfl rfl (by kernel_rfl) (by kernel_rfl) (by kernel_rfl) (fun _ _ _ h => h) .all (r_move rfl rfl) ?_
        obtain ⟨b1, o1, cs1, T1, fz1, ha1, hm1, hr1⟩ := SliceAt.opn hs (by omega)
        refine a_take (i := 2) rfl rfl rfl rfl (by kernel_rfl) (by kernel_rfl) (by kernel_rfl) (fun _ _ _ h => h) .all (r_indexAddr rfl rfl ha1 rfl Try.underlying22 Try.sizeOf30 (by omega) (by omega)) ?_
        refine a_take (i := 3) rfl rfl rfl rfl (by kernel_rfl) (by kernel_rfl) (by kernel_rfl) (fun _ _ _ h => h) .all (r_loadAgg rfl Try.isAgg30 Try.sizeOf30 rfl ((fun p hp => hp) _ hm1) (Row.elem hr1 (getBangI (l := l) (j := (((i : Nat) : Int))) (i := i) (by first | rfl | omega) (by have hh_ := SliceAt.len hs; omega))) rfl) ?_
        refine a_take (i := 4) rfl rfl rfl rfl (by kernel_rfl) (by kernel_rfl) (by kernel_rfl) (fun _ _ _ h => h) .all (r_move rfl rfl) ?_
        refine a_take (i := 5) rfl rfl rfl rfl (by kernel_rfl) (by kernel_rfl) (by kernel_rfl) (fun _ _ _ h => h) .all (r_move rfl rfl) ?_
        obtain ⟨b2, o2, cs2, T2, fz2, ha2, hm2, hr2⟩ := SliceAt.opn hm (by omega)
        refine a_take (i := 6) rfl rfl rfl rfl (by kernel_rfl) (by kernel_rfl) (by kernel_rfl) (fun _ _ _ h => h) .all (r_indexAddr rfl rfl ha2 rfl Try.underlying22 Try.sizeOf30 (by omega) (by omega)) ?_
        refine a_take (i := 7) rfl rfl rfl rfl (by kernel_rfl) (by kernel_rfl) (by kernel_rfl) (fun _ _ _ h => h) .all (r_loadAgg rfl Try.isAgg30 Try.sizeOf30 rfl ((fun p hp => hp) _ hm2) (Row.elem hr2 (getBangI (l := m) (j := (((i : Nat) : Int))) (i := i) (by first | rfl | omega) (by have hh_ := SliceAt.len hm; omega))) rfl) ?_
        refine a_take (i := 8) rfl rfl rfl rfl (by kernel_rfl) (by kernel_rfl) (by kernel_rfl) (fun _ _ _ h => h) .all (r_neDeep (m := 2) rfl rfl rfl (by kernel_rfl) (by kernel_rfl) rfl (by kernel_rfl) (by kernel_rfl) (keyLits_dig Try.underlying30 Try.underlying5 (by kernel_rfl) (by kernel_rfl) _ 0) (keyLits_dig Try.underlying30 Try.underlying5 (by kernel_rfl) (by kernel_rfl) _ 0) digLits_inj) ?_
        refine a_done (by kernel_rfl) ?_
        refine e_next ?_
        refine t_dec rfl (fun c25 => ?_) (fun c25 => ?_)
        · skip
          refine t_seq ?_
          refine t_region ?_
          refine l_op rfl (o_val rfl rfl (r_assign rfl rfl) ?_)
          refine l_nil ?_
          refine e_next ?_
          refine t_ret ?_
          refine e_block_ret ?_
          refine e_pass_ret ?_
          refine e_pass_ret ?_
          refine e_block_ret ?_
          refine e_pass_ret ?_
          exact e_ret rfl (.tmp rfl .nil) ⟨congrArg Value.bool (decide_eq_false (same_no c25)).symm, rfl⟩
        · skip
          refine t_skip ?_
          refine e_block _ ?_
          refine e_next ?_
          refine t_region ?_
          refine l_op rfl (o_val rfl rfl (r_move rfl rfl) ?_)
          refine l_op rfl (o_val rfl rfl (r_add rfl rfl rfl (by omega) (by omega)) ?_)
          refine l_op rfl (o_val rfl rfl (r_assign rfl rfl) ?_)
          refine l_nil ?_
          intro aa ww hL hH
          exact ⟨_, by omega, (i + 1), rfl, by omega, (same_step ht (by omega) (by omega) (Decidable.of_not_not c25)), hL.sub (.cons (t := 0) rfl (.cons (t := 1) rfl (.eq (t := 5) rfl (congrArg (Value.int .i64) (by first | rfl | omega | (simp only [Int.toNat_natCast]; omega))) .nil))), hH.hs .all⟩
      · skip
        refine t_exit ?_
        refine e_pass_exit ?_
        refine e_pass_exit ?_
        refine e_block_here ?_
        refine e_next ?_
        refine t_seq ?_
        refine t_region ?_
        refine l_op rfl (o_val rfl rfl (r_assign rfl rfl) ?_)
        refine l_nil ?_
        refine e_next ?_
        refine t_ret ?_
        exact e_ret rfl (.tmp rfl .nil) ⟨congrArg Value.bool (decide_eq_true (by rw [List.take_of_length_le (by omega), List.take_of_length_le (by omega)] at ht; exact ht)).symm, rfl⟩

set_option maxHeartbeats 2000000 in
set_option maxRecDepth 100000 in
theorem dclone_c {E : Env} {H : Heap} {a : Option Addr} {n c : Nat} {l : List Dig} (hs : SliceAt H encDig 32 a n c l) (hl : n ≤ 1073741824) :
    Fn Try.prog 15 [.slice a n c] E H (fun v H2 => ∃ v2 X, v = v2 ∧ H2 = X ++ H ∧ Own 32 30 v2 ((l).map encDig) X) := by
  have hln := hs.len
  refine Fn.of_body (N := 8) Try.func15 rfl rfl rfl ?_
  refine t_seq ?_
  refine t_region ?_
  refine l_op rfl (o_val rfl rfl (r_assign rfl rfl) ?_)
  refine l_nil ?_
  refine e_next ?_
  refine t_seq ?_
  refine t_seq ?_
  refine t_region ?_
  refine l_op rfl (o_val rfl rfl (r_move rfl rfl) ?_)
  refine l_op rfl (o_val rfl rfl (r_eqv rfl rfl rfl rfl rfl (q_slice_nil Try.underlying22)) ?_)
  refine l_nil ?_
  refine e_next ?_
  refine t_cond rfl (fun c4 => ?_) (fun c4 => ?_)
  · skip
    refine t_seq ?_
    refine t_region ?_
    refine l_op rfl (o_val rfl rfl (r_assign rfl rfl) ?_)
    refine l_nil ?_
    refine e_next ?_
    refine t_ret ?_
    refine e_pass_ret ?_
    refine Then.mem .all ?_
    exact e_ret rfl (.tmp rfl .nil) ⟨.slice none 0 0, [], rfl, rfl, Own.cast (SliceAt.none_nil hs c4).symm (Own.nil _ _)⟩
  · skip
    refine t_skip ?_
    refine e_next ?_
    refine t_seq ?_
    refine t_region ?_
    refine l_op rfl (o_slice0 rfl rfl rfl Try.underlying22 Try.sizeOf30 ?_)
    intro b1
    refine l_op rfl (o_val rfl rfl (r_move rfl rfl) ?_)
    refine l_op rfl (o_appendS (enc := encDig) (xs := []) (l := l) rfl rfl rfl rfl rfl Try.underlying22 Try.type30 rfl rfl rfl rfl (fun _ => rfl) (fun _ => rfl) Own.empty .here (SliceAt.mono hs (fun p hp => (List.mem_cons_of_mem _ hp))) (by show (_ + _) * 32 ≤ _; (try simp only [List.length_nil, List.length_cons, List.length_append, List.length_map, List.length_take, List.length_replicate, List.length_drop]); omega) (by (try simp only [List.length_nil, List.length_cons, List.length_append, List.length_map, List.length_take, List.length_replicate, List.length_drop]); omega) ?_)
    intro v2 X2 ho2
    rw [List.nil_append] at ho2
    refine l_op rfl (o_val rfl rfl (r_assign rfl rfl) ?_)
    refine l_nil ?_
    refine e_next ?_
    refine t_ret ?_
    refine Then.mem (.seg .here .all) ?_
    exact e_ret rfl (.tmp rfl .nil) ⟨v2, X2, rfl, rfl, ho2⟩

set_option maxHeartbeats 2000000 in
set_option maxRecDepth 100000 in
theorem rrising_c {E : Env} {H : Heap} {a : Option Addr} {n c : Nat} {l : List Dig} (hs : SliceAt H encDig 32 a n c l) (hl : n ≤ 1048576) :
    Fn Try.prog 19 [.slice a n c] E H (fun v H2 => ∃ v2 X, v = v2 ∧ H2 = X ++ H ∧ Own 32 30 v2 ((sortD l).map encDig) X) := by
  have hln := hs.len
  refine Fn.of_body (N := 47) Try.func19 rfl rfl rfl ?_
  refine t_seq ?_
  refine t_region ?_
  refine l_op rfl (o_val rfl rfl (r_assign rfl rfl) ?_)
  refine l_nil ?_
  refine e_next ?_
  refine t_seq ?_
  refine t_region ?_
  refine l_op rfl (o_val rfl rfl (r_assign rfl rfl) ?_)
  refine l_nil ?_
  refine e_next ?_
  refine t_seq ?_
  refine t_region ?_
  refine l_op rfl (o_slice0 rfl rfl rfl Try.underlying22 Try.sizeOf30 ?_)
  intro b1
  refine l_op rfl (o_val rfl rfl (r_move rfl rfl) ?_)
  refine l_op rfl (o_appendS (enc := encDig) (xs := []) (l := l) rfl rfl rfl rfl rfl Try.underlying22 Try.type30 rfl rfl rfl rfl (fun _ => rfl) (fun _ => rfl) Own.empty .here (SliceAt.mono hs (fun p hp => (List.mem_cons_of_mem _ hp))) (by show (_ + _) * 32 ≤ _; (try simp only [List.length_nil, List.length_cons, List.length_append, List.length_map, List.length_take, List.length_replicate, List.length_drop]); omega) (by (try simp only [List.length_nil, List.length_cons, List.length_append, List.length_map, List.length_take, List.length_replicate, List.length_drop]); omega) ?_)
  intro v2 X2 ho2
  rw [List.nil_append] at ho2
  refine l_op rfl (o_val rfl rfl (r_assign rfl rfl) ?_)
  refine l_nil ?_
  refine e_next ?_
  refine t_seq ?_
  refine t_block ?_
  refine t_loop (fun (mz : Nat) aa ww => ∃ (o : List Dig) (r : List Dig) (vo3 : Value) (Xo3 : Heap) (vo4 : Value) (Xo4 : Heap), mz = r.length ∧ ((o ++ r).Perm l) ∧ (Sorted o) ∧ (∀ x ∈ o, ∀ y ∈ r, digLt y x = false) ∧ Own 32 30 vo3 ((o).map encDig) Xo3 ∧ Own 32 30 vo4 ((r).map encDig) Xo4 ∧ Sl 47 [(2, .slice none 0 0), (3, vo3), (4, vo4)] aa ∧ Holds E (Xo3 ++ (Xo4 ++ H)) ww) (l.length) ?_ ?_
  · intro aa ww hL hH
    exact ⟨[], l, (.slice none 0 0), [], (v2), X2, rfl, (.refl _), .nil, (fun x hx => by cases hx), (Own.cast (enc := encDig) rfl (Own.nil _ _)), (Own.cast (enc := encDig) rfl ho2), hL.sub (.cons (t := 2) rfl (.cons (t := 3) rfl (.cons (t := 4) rfl .nil))), hH.hs (.seg (S := []) .here (.seg .here .all))⟩
  · skip
    rintro mz aa ww ⟨o, r, vo3, Xo3, vo4, Xo4, hmz, hp, hso, hle, ho3, ho4, hL, hH⟩
    refine Then.run hL hH ?_
    clear hL hH aa ww
    have hpl := hp.length_eq
    rw [List.length_append] at hpl
    refine t_seq ?_
    refine t_seq ?_
    refine t_region ?_
    refine l_op rfl (o_val rfl rfl (r_move rfl rfl) ?_)
    obtain ⟨a3, c3, hv3, hsl3⟩ := Own.at (enc := encDig) (l := r) ho4
    subst hv3
    have hcp3 := SliceAt.cap hsl3
    refine l_op rfl (o_val rfl rfl (r_len rfl rfl Try.underlying22) ?_)
    refine l_op rfl (o_val rfl rfl (r_gt rfl rfl rfl) ?_)
    refine l_nil ?_
    refine e_next ?_
    refine t_dec rfl (fun c12 => ?_) (fun c12 => ?_)
    · skip
      refine t_skip ?_
      refine e_next ?_
      refine t_block ?_
      refine t_seq ?_
      refine t_region ?_
      refine l_op rfl (o_val rfl rfl (r_assign rfl rfl) ?_)
      refine l_nil ?_
      refine e_next ?_
      refine t_seq ?_
      refine t_seq ?_
      refine t_region ?_
      refine l_op rfl (o_val rfl rfl (r_assign rfl rfl) ?_)
      refine l_nil ?_
      refine e_next ?_
      refine t_block ?_
      refine t_loop (fun (mz : Nat) aa ww => ∃ (i : Nat) (k : Nat), mz = r.length - i ∧ (k < r.length) ∧ (∀ j, j < i → digLt (r[j]!) (r[k]!) = false) ∧ (1 ≤ i ∧ i ≤ max 1 r.length) ∧ Sl 47 [(2, .slice none 0 0), (3, vo3), (4, .slice a3 (r).length c3), (5, .int .i64 (((k : Nat) : Int))), (6, .int .i64 (((i : Nat) : Int)))] aa ∧ Holds E (Xo3 ++ (Xo4 ++ H)) ww) (r.length - 1) ?_ ?_
      · intro aa ww hL hH
        exact ⟨1, 0, rfl, by omega, (fun j hj => by obtain rfl : j = 0 := (by omega); exact digLt_irrefl _), by omega, hL.sub (.cons (t := 2) rfl (.cons (t := 3) rfl (.cons (t := 4) rfl (.eq (t := 5) rfl (congrArg (Value.int .i64) (by first | rfl | omega | (simp only [Int.toNat_natCast]; omega))) (.eq (t := 6) rfl (congrArg (Value.int .i64) (by first | rfl | omega | (simp only [Int.toNat_natCast]; omega))) .nil))))), hH.hs (.seg .here (.seg .here .all))⟩
      · skip
        rintro mz aa ww ⟨i, k, hmz, hk, hmin, hi, hL, hH⟩
        refine Then.run hL hH ?_
        clear hL hH aa ww
        refine t_seq ?_
        refine t_seq ?_
        refine t_region ?_
        refine l_op rfl (o_val rfl rfl (r_move rfl rfl) ?_)
        refine l_op rfl (o_val rfl rfl (r_move rfl rfl) ?_)
        refine l_op rfl (o_val rfl rfl (r_len rfl rfl Try.underlying22) ?_)
        refine l_op rfl (o_val rfl rfl (r_lt rfl rfl rfl) ?_)
        refine l_nil ?_
        refine e_next ?_
        refine t_dec rfl (fun c16 => ?_) (fun c16 => ?_)
        · skip
          refine t_skip ?_
          refine e_next ?_
          refine t_seq ?_
          refine t_block ?_
          refine t_seq ?_
          refine t_draw (n := 9) .all rfl (by kernel_rfl) ?_
          refine a_take (i := 0) rfl rfl rfl rfl (by kernel_rfl) (by kernel_rfl) (by kernel_rfl) (fun _ _ _ h => h) .all (r_move rfl rfl) ?_
          refine a_take (i := 1) rfl rfl rfl rfl (by kernel_rfl) (by kernel_rfl) (by kernel_rfl) (fun _ _ _ h => h) .all (r_move rfl rfl) ?_
          obtain ⟨b4, o4, cs4, T4, fz4, ha4, hm4, hr4⟩ := SliceAt.opn hsl3 (by omega)
          refine a_take (i := 2) rfl rfl rfl rfl (by kernel_rfl) (by kernel_rfl) (by kernel_rfl) (fun _ _ _ h => h) .all (r_indexAddr rfl rfl ha4 rfl Try.underlying22 Try.sizeOf30 (by omega) (by omega)) ?_
          refine a_take (i := 3) rfl rfl rfl rfl (by kernel_rfl) (by kernel_rfl) (by kernel_rfl) (fun _ _ _ h => h) .all (r_loadAgg rfl Try.isAgg30 Try.sizeOf30 rfl ((fun p hp => (List.mem_append_right _ (List.mem_append_left _ hp))) _ hm4) (Row.elem hr4 (getBangI (l := r) (j := (((i : Nat) : Int))) (i := i) (by first | rfl | omega) (by have hh_ := SliceAt.len hsl3; omega))) rfl) ?_
          refine a_take (i := 4) rfl rfl rfl rfl (by kernel_rfl) (by kernel_rfl) (by kernel_rfl) (fun _ _ _ h => h) .all (r_move rfl rfl) ?_
          refine a_take (i := 5) rfl rfl rfl rfl (by kernel_rfl) (by kernel_rfl) (by kernel_rfl) (fun _ _ _ h => h) .all (r_move rfl rfl) ?_
          refine a_take (i := 6) rfl rfl rfl rfl (by kernel_rfl) (by kernel_rfl) (by kernel_rfl) (fun _ _ _ h => h) .all (r_indexAddr rfl rfl ha4 rfl Try.underlying22 Try.sizeOf30 (by omega) (by omega)) ?_
          refine a_take (i := 7) rfl rfl rfl rfl (by kernel_rfl) (by kernel_rfl) (by kernel_rfl) (fun _ _ _ h => h) .all (r_loadAgg rfl Try.isAgg30 Try.sizeOf30 rfl ((fun p hp => (List.mem_append_right _ (List.mem_append_left _ hp))) _ hm4) (Row.elem hr4 (getBangI (l := r) (j := (((k : Nat) : Int))) (i := k) (by first | rfl | omega) (by have hh_ := SliceAt.len hsl3; omega))) rfl) ?_
          refine a_one (i := 8) rfl rfl (by kernel_rfl) (o_call rfl rfl rfl Try.call26 rfl (less_c (x := (r[i]!)) (y := (r[k]!))) ?_)
          rintro _ _ ⟨rfl, X5, rfl⟩
          refine a_keep (.dropS .all) ?_
          refine a_done (by kernel_rfl) ?_
          refine e_next ?_
          refine t_cond rfl (fun c27 => ?_) (fun c27 => ?_)
          · skip
            refine t_region ?_
            refine l_op rfl (o_val rfl rfl (r_move rfl rfl) ?_)
            refine l_op rfl (o_val rfl rfl (r_assign rfl rfl) ?_)
            refine l_nil ?_
            refine e_block _ ?_
            refine e_next ?_
            refine t_region ?_
            refine l_op rfl (o_val rfl rfl (r_move rfl rfl) ?_)
            refine l_op rfl (o_val rfl rfl (r_add rfl rfl rfl (by omega) (by omega)) ?_)
            refine l_op rfl (o_val rfl rfl (r_assign rfl rfl) ?_)
            refine l_nil ?_
            intro aa ww hL hH
            exact ⟨_, by omega, (i + 1), i, rfl, by omega, (min_less hmin c27), by omega, hL.sub (.cons (t := 2) rfl (.cons (t := 3) rfl (.cons (t := 4) rfl (.eq (t := 5) rfl (congrArg (Value.int .i64) (by first | rfl | omega | (simp only [Int.toNat_natCast]; omega))) (.eq (t := 6) rfl (congrArg (Value.int .i64) (by first | rfl | omega | (simp only [Int.toNat_natCast]; omega))) .nil))))), hH.hs (.seg (.app .here) (.seg (.app .here) (.dropS .all)))⟩
          · skip
            refine t_skip ?_
            refine e_block _ ?_
            refine e_next ?_
            refine t_region ?_
            refine l_op rfl (o_val rfl rfl (r_move rfl rfl) ?_)
            refine l_op rfl (o_val rfl rfl (r_add rfl rfl rfl (by omega) (by omega)) ?_)
            refine l_op rfl (o_val rfl rfl (r_assign rfl rfl) ?_)
            refine l_nil ?_
            intro aa ww hL hH
            exact ⟨_, by omega, (i + 1), k, rfl, by omega, (min_same hmin c27), by omega, hL.sub (.cons (t := 2) rfl (.cons (t := 3) rfl (.cons (t := 4) rfl (.eq (t := 5) rfl (congrArg (Value.int .i64) (by first | rfl | omega | (simp only [Int.toNat_natCast]; omega))) (.eq (t := 6) rfl (congrArg (Value.int .i64) (by first | rfl | omega | (simp only [Int.toNat_natCast]; omega))) .nil))))), hH.hs (.seg (.app .here) (.seg (.app .here) (.dropS .all)))⟩
        · skip
          refine t_exit ?_
          refine e_pass_exit ?_
          refine e_pass_exit ?_
          refine e_block_here ?_
          refine e_next ?_
          refine t_seq ?_
          refine t_region ?_
          refine l_op rfl (o_val rfl rfl (r_move rfl rfl) ?_)
          refine l_op rfl (o_val rfl rfl (r_move rfl rfl) ?_)
          refine l_op rfl (o_val rfl rfl (r_move rfl rfl) ?_)
          obtain ⟨b6, o6, cs6, T6, fz6, ha6, hm6, hr6⟩ := SliceAt.opn hsl3 (by omega)
          refine l_op rfl (o_val rfl rfl (r_indexAddr rfl rfl ha6 rfl Try.underlying22 Try.sizeOf30 (by omega) (by omega)) ?_)
          refine l_op rfl (o_val rfl rfl (r_loadAgg rfl Try.isAgg30 Try.sizeOf30 rfl ((fun p hp => (List.mem_append_right _ (List.mem_append_left _ hp))) _ hm6) (Row.elem hr6 (getBangI (l := r) (j := (((k : Nat) : Int))) (i := k) (by first | rfl | omega) (by have hh_ := SliceAt.len hsl3; omega))) rfl) ?_)
          refine l_op rfl (o_slice1 rfl rfl rfl rfl rfl Try.underlying22 Try.sizeOf30 Try.zeroValue30 rfl rfl (by omega) ?_)
          intro b7
          refine l_op rfl (o_appendS (enc := encDig) (xs := o) (l := [(r[k]!)]) rfl rfl rfl rfl rfl Try.underlying22 Try.type30 rfl rfl rfl rfl (fun _ => rfl) (fun _ => rfl) ho3 (.tail .here) (sliceAt_one (enc := encDig) (a := (r[k]!)) rfl List.mem_cons_self) (by show (_ + _) * 32 ≤ _; (try simp only [List.length_nil, List.length_cons, List.length_append, List.length_map, List.length_take, List.length_replicate, List.length_drop]); omega) (by (try simp only [List.length_nil, List.length_cons, List.length_append, List.length_map, List.length_take, List.length_replicate, List.length_drop]); omega) ?_)
          intro v8 X8 ho8
          refine l_op rfl (o_val rfl rfl (r_assign rfl rfl) ?_)
          refine l_nil ?_
          refine e_next ?_
          refine t_draw (n := 11) .all rfl (by kernel_rfl) ?_
          refine a_take (i := 1) rfl rfl rfl rfl (by kernel_rfl) (by kernel_rfl) (by kernel_rfl) (fun _ _ _ h => h) .all (r_move rfl rfl) ?_
          refine a_take (i := 2) rfl rfl rfl rfl (by kernel_rfl) (by kernel_rfl) (by kernel_rfl) (fun _ _ _ h => h) .all (r_move rfl rfl) ?_
          refine a_take (i := 3) rfl rfl rfl rfl (by kernel_rfl) (by kernel_rfl) (by kernel_rfl) (fun _ _ _ h => h) .all (r_sliceTo rfl rfl rfl Try.underlying22 Try.sizeOf30 (by omega) (by omega)) ?_
          refine a_take (i := 5) rfl rfl rfl rfl (by kernel_rfl) (by kernel_rfl) (by kernel_rfl) (fun _ _ _ h => h) .all (r_move rfl rfl) ?_
          refine a_take (i := 6) rfl rfl rfl rfl (by kernel_rfl) (by kernel_rfl) (by kernel_rfl) (fun _ _ _ h => h) .all (r_move rfl rfl) ?_
          refine a_take (i := 7) rfl rfl rfl rfl (by kernel_rfl) (by kernel_rfl) (by kernel_rfl) (fun _ _ _ h => h) .all (r_add rfl rfl rfl (by omega) (by omega)) ?_
          refine a_take (i := 8) rfl rfl rfl rfl (by kernel_rfl) (by kernel_rfl) (by kernel_rfl) (fun _ _ _ h => h) .all (r_sliceFrom rfl rfl rfl Try.underlying22 Try.sizeOf30 (by omega) (by omega)) ?_
          refine a_one (i := 0) rfl rfl (by kernel_rfl) (o_slice0 rfl rfl rfl Try.underlying22 Try.sizeOf30 ?_)
          intro b9
          refine a_keep (.drop .all) ?_
          refine a_one (i := 4) rfl rfl (by kernel_rfl) (o_appendS (enc := encDig) (xs := []) (l := (r.take (Int.toNat (((k : Nat) : Int))))) rfl rfl rfl rfl rfl Try.underlying22 Try.type30 rfl rfl rfl rfl (fun _ => rfl) (fun _ => rfl) Own.empty .here (SliceAt.mono (SliceAt.take (k := (Int.toNat (((k : Nat) : Int)))) (c' := c3) hsl3 (by omega) (by omega)) (fun p hp => (List.mem_cons_of_mem _ (List.mem_append_right _ (List.mem_cons_of_mem _ (List.mem_append_left _ hp)))))) (by show (_ + _) * 32 ≤ _; (try simp only [List.length_nil, List.length_cons, List.length_append, List.length_map, List.length_take, List.length_replicate, List.length_drop]); omega) (by (try simp only [List.length_nil, List.length_cons, List.length_append, List.length_map, List.length_take, List.length_replicate, List.length_drop]); omega) ?_)
          intro v10 X10 ho10
          rw [List.nil_append] at ho10
          refine a_keep (.dropS .all) ?_
          refine a_one (i := 9) rfl rfl (by kernel_rfl) (o_appendS (enc := encDig) (xs := (r.take (Int.toNat (((k : Nat) : Int))))) (l := (r.drop (Int.toNat ((((k : Nat) : Int)) + 1)))) rfl rfl rfl rfl rfl Try.underlying22 Try.type30 rfl rfl rfl rfl (fun _ => rfl) (fun _ => rfl) ho10 .here (SliceAt.mono (SliceAt.drop (k := (Int.toNat ((((k : Nat) : Int)) + 1))) hsl3 (by omega)) (fun p hp => (List.mem_append_right _ (List.mem_append_right _ (List.mem_cons_of_mem _ (List.mem_append_left _ hp)))))) (by show (_ + _) * 32 ≤ _; (try simp only [List.length_nil, List.length_cons, List.length_append, List.length_map, List.length_take, List.length_replicate, List.length_drop]); omega) (by (try simp only [List.length_nil, List.length_cons, List.length_append, List.length_map, List.length_take, List.length_replicate, List.length_drop]); omega) ?_)
          intro v11 X11 ho11
          refine a_keep (.dropS .all) ?_
          refine a_take (i := 10) rfl rfl rfl rfl (by kernel_rfl) (by kernel_rfl) (by kernel_rfl) (fun _ _ _ h => h) (.dropS .all) (r_assign rfl rfl) ?_
          refine a_done (by kernel_rfl) ?_
          refine Then.slots (.cons (t := 2) rfl (.cons (t := 3) rfl (.cons (t := 4) rfl .nil))) ?_
          refine e_block _ ?_
          intro aa ww hL hH
          exact ⟨_, (by rw [List.length_append, List.length_take, List.length_drop]; omega), (o ++ [r[k]!]), (r.take k ++ r.drop (k + 1)), (v8), X8, (v11), X11, rfl, (rise_perm hp (by omega)), (rise_sorted hso hle (by omega)), (rise_le hle (by omega) (fun j hj => hmin j (by omega))), (Own.cast (enc := encDig) rfl ho8), (Own.cast (enc := encDig) rfl ho11), hL.sub (.cons (t := 2) rfl (.cons (t := 3) rfl (.cons (t := 4) rfl .nil))), hH.hs (.seg (.app .here) (.seg .here (.drop (.dropS .all))))⟩
    · skip
      refine t_exit ?_
      refine e_pass_exit ?_
      refine e_pass_exit ?_
      refine e_block_here ?_
      refine e_next ?_
      refine t_seq ?_
      refine t_region ?_
      refine l_op rfl (o_val rfl rfl (r_move rfl rfl) ?_)
      refine l_op rfl (o_val rfl rfl (r_assign rfl rfl) ?_)
      refine l_nil ?_
      refine e_next ?_
      refine t_ret ?_
      refine Then.mem (.seg .here (.dropS .all)) ?_
      exact e_ret rfl (.tmp rfl .nil) ⟨vo3, Xo3, rfl, rfl, (Own.cast (sortD_unique (by have h0 : r = [] := List.eq_nil_of_length_eq_zero (by omega); subst h0; simpa using hp) hso) ho3)⟩

set_option maxHeartbeats 2000000 in
set_option maxRecDepth 100000 in
theorem rising20_c {E : Env} {H : Heap} {a : Option Addr} {n c : Nat} {l : List Dig} (hs : SliceAt H encDig 32 a n c l) (hl : n ≤ 1048576) :
    Fn Try.prog 10 [.slice a n c] E H (fun v H2 => ∃ v2 X, v = v2 ∧ H2 = X ++ H ∧ Own 32 30 v2 ((risingD l).map encDig) X) := by
  have hln := hs.len
  refine Fn.of_body (N := 36) Try.func10 rfl rfl rfl ?_
  refine t_seq ?_
  refine t_region ?_
  refine l_op rfl (o_val rfl rfl (r_assign rfl rfl) ?_)
  refine l_nil ?_
  refine e_next ?_
  refine t_seq ?_
  refine t_region ?_
  refine l_op rfl (o_val rfl rfl (r_assign rfl rfl) ?_)
  refine l_nil ?_
  refine e_next ?_
  refine t_seq ?_
  refine t_region ?_
  refine l_op rfl (o_val rfl rfl (r_move rfl rfl) ?_)
  refine l_op rfl (o_call rfl rfl rfl Try.call19 rfl (rrising_c (l := l) (SliceAt.mono hs (fun p hp => hp)) (by omega)) ?_)
  rintro _ _ ⟨v1, X1, rfl, rfl, ho1⟩
  have := sortD_length l
  refine l_op rfl (o_val rfl rfl (r_assign rfl rfl) ?_)
  refine l_nil ?_
  refine e_next ?_
  refine t_seq ?_
  refine t_seq ?_
  obtain ⟨a2, c2, hv2, hsl2⟩ := Own.at (enc := encDig) (l := (sortD l)) ho1
  subst hv2
  have hcp2 := SliceAt.cap hsl2
  refine t_region ?_
  refine l_op rfl (o_val rfl rfl (r_assign rfl rfl) ?_)
  refine l_nil ?_
  refine e_next ?_
  refine t_block ?_
  refine t_loop (fun (mz : Nat) aa ww => ∃ (i : Nat) (vo3 : Value) (Xo3 : Heap), mz = (sortD l).length - i ∧ (i ≤ (sortD l).length) ∧ Own 32 30 vo3 (((keepNew (sortD l) i)).map encDig) Xo3 ∧ Sl 36 [(2, .slice none 0 0), (3, vo3), (4, .slice a2 ((sortD l)).length c2), (5, .int .i64 (((i : Nat) : Int)))] aa ∧ Holds E (Xo3 ++ (X1 ++ H)) ww) ((sortD l).length) ?_ ?_
  · intro aa ww hL hH
    exact ⟨0, (.slice none 0 0), [], rfl, by omega, (Own.cast (enc := encDig) rfl (Own.nil _ _)), hL.sub (.cons (t := 2) rfl (.cons (t := 3) rfl (.cons (t := 4) rfl (.eq (t := 5) rfl (congrArg (Value.int .i64) (by first | rfl | omega | (simp only [Int.toNat_natCast]; omega))) .nil)))), hH.hs (.seg (S := []) .here (.seg .here .all))⟩
  · skip
    rintro mz aa ww ⟨i, vo3, Xo3, hmz, hi, ho3, hL, hH⟩
    refine Then.run hL hH ?_
    clear hL hH aa ww
    have hkl := keepNew_le (sortD l) i
    refine t_seq ?_
    refine t_seq ?_
    refine t_region ?_
    refine l_op rfl (o_val rfl rfl (r_move rfl rfl) ?_)
    refine l_op rfl (o_val rfl rfl (r_move rfl rfl) ?_)
    refine l_op rfl (o_val rfl rfl (r_len rfl rfl Try.underlying22) ?_)
    refine l_op rfl (o_val rfl rfl (r_lt rfl rfl rfl) ?_)
    refine l_nil ?_
    refine e_next ?_
    refine t_dec rfl (fun c11 => ?_) (fun c11 => ?_)
    · skip
      refine t_skip ?_
      refine e_next ?_
      refine t_seq ?_
      refine t_block ?_
      obtain ⟨b3, o3, cs3, T3, fz3, ha3, hm3, hr3⟩ := SliceAt.opn hsl2 (by omega)
      refine t_cut (fun aa ww => Sl 36 [(2, .slice none 0 0), (3, vo3), (4, .slice a2 ((sortD l)).length c2), (5, .int .i64 (((i : Nat) : Int))), (27, .bool ((decide ((((i : Nat) : Int)) = 0) || decide (¬ (((sortD l)[i]!) = ((sortD l)[(i - 1)]!))))))] aa ∧ Holds E (Xo3 ++ (X1 ++ H)) ww) ?_ ?_
      · skip
        refine t_draw (n := 14) .all rfl (by kernel_rfl) ?_
        refine a_take (i := 0) rfl rfl rfl rfl (by kernel_rfl) (by kernel_rfl) (by kernel_rfl) (fun _ _ _ h => h) .all (r_move rfl rfl) ?_
        refine a_take (i := 1) rfl rfl rfl rfl (by kernel_rfl) (by kernel_rfl) (by kernel_rfl) (fun _ _ _ h => h) .all (r_eq rfl rfl rfl) ?_
        refine a_take (i := 2) rfl rfl rfl rfl (by kernel_rfl) (by kernel_rfl) (by kernel_rfl) (fun _ _ _ h => h) .all (r_move rfl rfl) ?_
        refine t_bool (decide ((((i : Nat) : Int)) = 0)) (fun hb4 => ?_) (fun hb4 => ?_)
        · skip
          have phb4 := of_decide_eq_true hb4
          refine a_skiph (i := 3) rfl rfl rfl rfl rfl rfl hb4 (by kernel_rfl) (by kernel_rfl) (by kernel_rfl) (fun _ _ _ h => h) .all ?_
          refine a_skiph (i := 4) rfl rfl rfl rfl rfl rfl hb4 (by kernel_rfl) (by kernel_rfl) (by kernel_rfl) (fun _ _ _ h => h) .all ?_
          refine a_skiph (i := 5) rfl rfl rfl rfl rfl rfl hb4 (by kernel_rfl) (by kernel_rfl) (by kernel_rfl) (fun _ _ _ h => h) .all ?_
          refine a_skiph (i := 6) rfl rfl rfl rfl rfl rfl hb4 (by kernel_rfl) (by kernel_rfl) (by kernel_rfl) (fun _ _ _ h => h) .all ?_
          refine a_skiph (i := 7) rfl rfl rfl rfl rfl rfl hb4 (by kernel_rfl) (by kernel_rfl) (by kernel_rfl) (fun _ _ _ h => h) .all ?_
          refine a_skiph (i := 8) rfl rfl rfl rfl rfl rfl hb4 (by kernel_rfl) (by kernel_rfl) (by kernel_rfl) (fun _ _ _ h => h) .all ?_
          refine a_skiph (i := 9) rfl rfl rfl rfl rfl rfl hb4 (by kernel_rfl) (by kernel_rfl) (by kernel_rfl) (fun _ _ _ h => h) .all ?_
          refine a_skiph (i := 10) rfl rfl rfl rfl rfl rfl hb4 (by kernel_rfl) (by kernel_rfl) (by kernel_rfl) (fun _ _ _ h => h) .all ?_
          refine a_skiph (i := 11) rfl rfl rfl rfl rfl rfl hb4 (by kernel_rfl) (by kernel_rfl) (by kernel_rfl) (fun _ _ _ h => h) .all ?_
          refine a_skiph (i := 12) rfl rfl rfl rfl rfl rfl hb4 (by kernel_rfl) (by kernel_rfl) (by kernel_rfl) (fun _ _ _ h => h) .all ?_
          refine a_take (i := 13) rfl rfl rfl rfl (by kernel_rfl) (by kernel_rfl) (by kernel_rfl) (fun _ _ _ h => h) .all (r_pickth rfl rfl hb4 rfl) ?_
          refine a_done (by kernel_rfl) ?_
          intro aa ww hL hH
          exact ⟨hL.sub (.cons (t := 2) rfl (.cons (t := 3) rfl (.cons (t := 4) rfl (.cons (t := 5) rfl (.eq (t := 27) rfl (by first | (simp [hb4]; done) | (simp only [hb4, Bool.true_and, Bool.false_and, Bool.true_or, Bool.false_or, Bool.and_true, Bool.and_false]; done)) .nil))))), hH.hs (.seg .here (.seg .here .all))⟩
        · skip
          have phb4 := of_decide_eq_false hb4
          refine a_takegh (i := 3) rfl rfl rfl rfl rfl rfl hb4 (by kernel_rfl) (by kernel_rfl) (by kernel_rfl) (fun _ _ _ h => h) .all (r_move rfl rfl) ?_
          refine a_takegh (i := 4) rfl rfl rfl rfl rfl rfl hb4 (by kernel_rfl) (by kernel_rfl) (by kernel_rfl) (fun _ _ _ h => h) .all (r_move rfl rfl) ?_
          refine a_takegh (i := 5) rfl rfl rfl rfl rfl rfl hb4 (by kernel_rfl) (by kernel_rfl) (by kernel_rfl) (fun _ _ _ h => h) .all (r_indexAddr rfl rfl ha3 rfl Try.underlying22 Try.sizeOf30 (by omega) (by omega)) ?_
          refine a_takegh (i := 6) rfl rfl rfl rfl rfl rfl hb4 (by kernel_rfl) (by kernel_rfl) (by kernel_rfl) (fun _ _ _ h => h) .all (r_loadAgg rfl Try.isAgg30 Try.sizeOf30 rfl ((fun p hp => (List.mem_append_right _ (List.mem_append_left _ hp))) _ hm3) (Row.elem hr3 (getBangI (l := (sortD l)) (j := (((i : Nat) : Int))) (i := i) (by first | rfl | omega) (by have hh_ := SliceAt.len hsl2; omega))) rfl) ?_
          refine a_takegh (i := 7) rfl rfl rfl rfl rfl rfl hb4 (by kernel_rfl) (by kernel_rfl) (by kernel_rfl) (fun _ _ _ h => h) .all (r_move rfl rfl) ?_
          refine a_takegh (i := 8) rfl rfl rfl rfl rfl rfl hb4 (by kernel_rfl) (by kernel_rfl) (by kernel_rfl) (fun _ _ _ h => h) .all (r_move rfl rfl) ?_
          refine a_takegh (i := 9) rfl rfl rfl rfl rfl rfl hb4 (by kernel_rfl) (by kernel_rfl) (by kernel_rfl) (fun _ _ _ h => h) .all (r_sub rfl rfl rfl (by omega) (by omega)) ?_
          refine a_takegh (i := 10) rfl rfl rfl rfl rfl rfl hb4 (by kernel_rfl) (by kernel_rfl) (by kernel_rfl) (fun _ _ _ h => h) .all (r_indexAddr rfl rfl ha3 rfl Try.underlying22 Try.sizeOf30 (by omega) (by omega)) ?_
          refine a_takegh (i := 11) rfl rfl rfl rfl rfl rfl hb4 (by kernel_rfl) (by kernel_rfl) (by kernel_rfl) (fun _ _ _ h => h) .all (r_loadAgg rfl Try.isAgg30 Try.sizeOf30 rfl ((fun p hp => (List.mem_append_right _ (List.mem_append_left _ hp))) _ hm3) (Row.elem hr3 (getBangI (l := (sortD l)) (j := ((((i : Nat) : Int)) - 1)) (i := (i - 1)) (by first | rfl | omega) (by have hh_ := SliceAt.len hsl2; omega))) rfl) ?_
          refine a_takegh (i := 12) rfl rfl rfl rfl rfl rfl hb4 (by kernel_rfl) (by kernel_rfl) (by kernel_rfl) (fun _ _ _ h => h) .all (r_neDeep (m := 2) rfl rfl rfl (by kernel_rfl) (by kernel_rfl) rfl (by kernel_rfl) (by kernel_rfl) (keyLits_dig Try.underlying30 Try.underlying5 (by kernel_rfl) (by kernel_rfl) _ 0) (keyLits_dig Try.underlying30 Try.underlying5 (by kernel_rfl) (by kernel_rfl) _ 0) digLits_inj) ?_
          refine a_take (i := 13) rfl rfl rfl rfl (by kernel_rfl) (by kernel_rfl) (by kernel_rfl) (fun _ _ _ h => h) .all (r_pickfh rfl rfl hb4 rfl) ?_
          refine a_done (by kernel_rfl) ?_
          intro aa ww hL hH
          exact ⟨hL.sub (.cons (t := 2) rfl (.cons (t := 3) rfl (.cons (t := 4) rfl (.cons (t := 5) rfl (.eq (t := 27) rfl (by first | (simp [hb4]; done) | (simp only [hb4, Bool.true_and, Bool.false_and, Bool.true_or, Bool.false_or, Bool.and_true, Bool.and_false]; done)) .nil))))), hH.hs (.seg .here (.seg .here .all))⟩
      rintro aa ww ⟨hL, hH⟩
      refine Then.run hL hH ?_
      clear hL hH aa ww
      refine t_cond rfl (fun c27 => ?_) (fun c27 => ?_)
      · skip
        try simp only [Bool.or_eq_true, Bool.and_eq_true, decide_eq_true_eq, Bool.not_eq_true', decide_eq_false_iff_not] at c27
        refine t_region ?_
        refine l_op rfl (o_val rfl rfl (r_move rfl rfl) ?_)
        refine l_op rfl (o_val rfl rfl (r_move rfl rfl) ?_)
        refine l_op rfl (o_val rfl rfl (r_move rfl rfl) ?_)
        refine l_op rfl (o_val rfl rfl (r_indexAddr rfl rfl ha3 rfl Try.underlying22 Try.sizeOf30 (by omega) (by omega)) ?_)
        refine l_op rfl (o_val rfl rfl (r_loadAgg rfl Try.isAgg30 Try.sizeOf30 rfl ((fun p hp => (List.mem_append_right _ (List.mem_append_left _ hp))) _ hm3) (Row.elem hr3 (getBangI (l := (sortD l)) (j := (((i : Nat) : Int))) (i := i) (by first | rfl | omega) (by have hh_ := SliceAt.len hsl2; omega))) rfl) ?_)
        refine l_op rfl (o_slice1 rfl rfl rfl rfl rfl Try.underlying22 Try.sizeOf30 Try.zeroValue30 rfl rfl (by omega) ?_)
        intro b5
        refine l_op rfl (o_appendS (enc := encDig) (xs := (keepNew (sortD l) i)) (l := [((sortD l)[i]!)]) rfl rfl rfl rfl rfl Try.underlying22 Try.type30 rfl rfl rfl rfl (fun _ => rfl) (fun _ => rfl) ho3 (.tail .here) (sliceAt_one (enc := encDig) (a := ((sortD l)[i]!)) rfl List.mem_cons_self) (by show (_ + _) * 32 ≤ _; (try simp only [List.length_nil, List.length_cons, List.length_append, List.length_map, List.length_take, List.length_replicate, List.length_drop]); omega) (by (try simp only [List.length_nil, List.length_cons, List.length_append, List.length_map, List.length_take, List.length_replicate, List.length_drop]); omega) ?_)
        intro v6 X6 ho6
        refine l_op rfl (o_val rfl rfl (r_assign rfl rfl) ?_)
        refine l_nil ?_
        refine e_block _ ?_
        refine e_next ?_
        refine t_region ?_
        refine l_op rfl (o_val rfl rfl (r_move rfl rfl) ?_)
        refine l_op rfl (o_val rfl rfl (r_add rfl rfl rfl (by omega) (by omega)) ?_)
        refine l_op rfl (o_val rfl rfl (r_assign rfl rfl) ?_)
        refine l_nil ?_
        intro aa ww hL hH
        exact ⟨_, by omega, (i + 1), (v6), X6, rfl, by omega, (Own.cast (enc := encDig) (keepNew_yes (c27.imp (fun e => by omega) id)).symm ho6), hL.sub (.cons (t := 2) rfl (.cons (t := 3) rfl (.cons (t := 4) rfl (.eq (t := 5) rfl (congrArg (Value.int .i64) (by first | rfl | omega | (simp only [Int.toNat_natCast]; omega))) .nil)))), hH.hs (.seg .here (.seg (.tail .here) (.drop .all)))⟩
      · skip
        try simp only [Bool.or_eq_false_iff, Bool.and_eq_false_iff, decide_eq_false_iff_not, Bool.not_eq_false', decide_eq_true_eq] at c27
        refine t_skip ?_
        refine e_block _ ?_
        refine e_next ?_
        refine t_region ?_
        refine l_op rfl (o_val rfl rfl (r_move rfl rfl) ?_)
        refine l_op rfl (o_val rfl rfl (r_add rfl rfl rfl (by omega) (by omega)) ?_)
        refine l_op rfl (o_val rfl rfl (r_assign rfl rfl) ?_)
        refine l_nil ?_
        intro aa ww hL hH
        exact ⟨_, by omega, (i + 1), (vo3), Xo3, rfl, by omega, (Own.cast (enc := encDig) (keepNew_no (fun h => h.elim (fun e => c27.1 (by omega)) (fun e => c27.2 e))).symm ho3), hL.sub (.cons (t := 2) rfl (.cons (t := 3) rfl (.cons (t := 4) rfl (.eq (t := 5) rfl (congrArg (Value.int .i64) (by first | rfl | omega | (simp only [Int.toNat_natCast]; omega))) .nil)))), hH.hs (.seg .here (.seg .here .all))⟩
    · skip
      refine t_exit ?_
      refine e_pass_exit ?_
      refine e_pass_exit ?_
      refine e_block_here ?_
      refine e_next ?_
      refine t_seq ?_
      refine t_region ?_
      refine l_op rfl (o_val rfl rfl (r_move rfl rfl) ?_)
      refine l_op rfl (o_val rfl rfl (r_assign rfl rfl) ?_)
      refine l_nil ?_
      refine e_next ?_
      refine t_ret ?_
      refine Then.mem (.seg .here (.dropS .all)) ?_
      exact e_ret rfl (.tmp rfl .nil) ⟨vo3, Xo3, rfl, rfl, (Own.cast (by obtain rfl : i = (sortD l).length := (by omega); rfl) ho3)⟩

end Go.Sal.Sh
