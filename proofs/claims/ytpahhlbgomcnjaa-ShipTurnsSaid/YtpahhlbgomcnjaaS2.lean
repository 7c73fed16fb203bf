/- The walks: printed by a program of this repo (wip/gen). -/
import Derived.Test.YtpahhlbgomcnjaaS1
set_option linter.unusedVariables false
set_option linter.unusedSimpArgs false
namespace Go.Sal.Sh
open Go Go.Sal Go.Proofs
set_option maxHeartbeats 2000000 in
set_option maxRecDepth 100000 in
theorem missing20_c {E : Env} {H : Heap} {a : Option Addr} {n c : Nat} {l : List Dig} (hs : SliceAt H encDig 32 a n c l) {ba : Option Addr} {bn bc : Nat} {m : List Dig} (hm : SliceAt H encDig 32 ba bn bc m) {most : Int} (hl : n ≤ 1048576) (hbl : bn ≤ 1073741824) :
    Fn Try.prog 8 [.slice a n c, .slice ba bn bc, .int .i64 most] E H (fun v H2 => ∃ v2 X, v = v2 ∧ H2 = X ++ H ∧ Own 32 30 v2 ((missingD l m most).map encDig) X) := by
  have hln := hs.len
  have hlm := hm.len
  refine Fn.of_body (N := 39) Try.func8 rfl rfl rfl ?_
  refine t_seq ?_
  refine t_region ?_
  refine l_op rfl (o_val rfl rfl (r_assign rfl rfl) ?_)
  refine l_nil ?_
  refine e_next ?_
  refine t_seq ?_
  refine t_region ?_
  refine l_op rfl (o_val rfl rfl (r_assign rfl rfl) ?_)
  refine l_nil ?_
  refine e_next ?_
  refine t_seq ?_
  refine t_region ?_
  refine l_op rfl (o_val rfl rfl (r_move rfl rfl) ?_)
  refine l_op rfl (o_call rfl rfl rfl Try.call10 rfl (rising20_c (l := l) (SliceAt.mono hs (fun p hp => hp)) (by omega)) ?_)
  rintro _ _ ⟨v1, X1, rfl, rfl, ho1⟩
  have := risingD_length l
  refine l_op rfl (o_val rfl rfl (r_assign rfl rfl) ?_)
  refine l_nil ?_
  refine e_next ?_
  refine t_seq ?_
  refine t_seq ?_
  obtain ⟨a2, c2, hv2, hsl2⟩ := Own.at (enc := encDig) (l := (risingD l)) ho1
  subst hv2
  have hcp2 := SliceAt.cap hsl2
  refine t_region ?_
  refine l_op rfl (o_val rfl rfl (r_assign rfl rfl) ?_)
  refine l_nil ?_
  refine e_next ?_
  refine t_block ?_
  refine t_loop (fun (mz : Nat) aa ww => ∃ (i : Nat) (vo7 : Value) (Xo7 : Heap), mz = (risingD l).length - i ∧ (i ≤ (risingD l).length) ∧ (((keepOut m ((risingD l).take i)).length : Int) ≤ max 0 most) ∧ Own 32 30 vo7 (((keepOut m ((risingD l).take i))).map encDig) Xo7 ∧ Sl 39 [(1, .slice ba bn bc), (2, .int .i64 (most)), (6, .slice none 0 0), (7, vo7), (8, .slice a2 ((risingD l)).length c2), (9, .int .i64 (((i : Nat) : Int)))] aa ∧ Holds E (Xo7 ++ (X1 ++ H)) ww) ((risingD l).length) ?_ ?_
  · intro aa ww hL hH
    exact ⟨0, (.slice none 0 0), [], rfl, by omega, (by simp [keepOut]; omega), (Own.cast (enc := encDig) (show ([] : List Dig) = keepOut m ((risingD l).take 0) from rfl) (Own.nil _ _)), hL.sub (.cons (t := 1) rfl (.cons (t := 2) rfl (.cons (t := 6) rfl (.cons (t := 7) rfl (.cons (t := 8) rfl (.eq (t := 9) rfl (congrArg (Value.int .i64) (by first | rfl | omega | (simp only [Int.toNat_natCast]; omega))) .nil)))))), hH.hs (.seg (S := []) .here (.seg .here .all))⟩
  · skip
    rintro mz aa ww ⟨i, vo7, Xo7, hmz, hi, hb, ho7, hL, hH⟩
    refine Then.run hL hH ?_
    clear hL hH aa ww
    obtain ⟨a3, c3, hv3, hsl3⟩ := Own.at (enc := encDig) (l := (keepOut m ((risingD l).take i))) ho7
    subst hv3
    have hcp3 := SliceAt.cap hsl3
    have hkl := keepOut_le (m := m) (l := (risingD l).take i)
    rw [List.length_take] at hkl
    refine t_seq ?_
    refine t_cut (fun aa ww => Sl 39 [(1, .slice ba bn bc), (2, .int .i64 (most)), (6, .slice none 0 0), (7, .slice a3 ((keepOut m ((risingD l).take i))).length c3), (8, .slice a2 ((risingD l)).length c2), (9, .int .i64 (((i : Nat) : Int))), (21, .bool ((decide ((((i : Nat) : Int)) < (((((risingD l)).length : Nat) : Int))) && decide ((((((keepOut m ((risingD l).take i))).length : Nat) : Int)) < most))))] aa ∧ Holds E (Xo7 ++ (X1 ++ H)) ww) ?_ ?_
    · skip
      refine t_region ?_
      refine l_op rfl (o_val rfl rfl (r_move rfl rfl) ?_)
      refine l_op rfl (o_val rfl rfl (r_move rfl rfl) ?_)
      refine l_op rfl (o_val rfl rfl (r_len rfl rfl Try.underlying22) ?_)
      refine l_op rfl (o_val rfl rfl (r_lt rfl rfl rfl) ?_)
      refine l_op rfl (o_val rfl rfl (r_move rfl rfl) ?_)
      refine t_bool (decide ((((i : Nat) : Int)) < (((((risingD l)).length : Nat) : Int)))) (fun hb4 => ?_) (fun hb4 => ?_)
      · skip
        have phb4 := of_decide_eq_true hb4
        refine l_yesh rfl rfl rfl hb4 (o_val rfl rfl (r_move rfl rfl) ?_)
        refine l_yesh rfl rfl rfl hb4 (o_val rfl rfl (r_len rfl rfl Try.underlying22) ?_)
        refine l_yesh rfl rfl rfl hb4 (o_val rfl rfl (r_move rfl rfl) ?_)
        refine l_yesh rfl rfl rfl hb4 (o_val rfl rfl (r_lt rfl rfl rfl) ?_)
        refine l_op rfl (o_val rfl rfl (r_pickth rfl rfl hb4 rfl) ?_)
        refine l_nil ?_
        intro aa ww hL hH
        exact ⟨hL.sub (.cons (t := 1) rfl (.cons (t := 2) rfl (.cons (t := 6) rfl (.cons (t := 7) rfl (.cons (t := 8) rfl (.cons (t := 9) rfl (.eq (t := 21) rfl (by first | (simp [hb4]; done) | (simp only [hb4, Bool.true_and, Bool.false_and, Bool.true_or, Bool.false_or, Bool.and_true, Bool.and_false]; done)) .nil))))))), hH.hs (.seg .here (.seg .here .all))⟩
      · skip
        have phb4 := of_decide_eq_false hb4
        refine l_noh rfl rfl rfl hb4 rfl rfl ?_
        refine l_noh rfl rfl rfl hb4 rfl rfl ?_
        refine l_noh rfl rfl rfl hb4 rfl rfl ?_
        refine l_noh rfl rfl rfl hb4 rfl rfl ?_
        refine l_op rfl (o_val rfl rfl (r_pickfh rfl rfl hb4 rfl) ?_)
        refine l_nil ?_
        intro aa ww hL hH
        exact ⟨hL.sub (.cons (t := 1) rfl (.cons (t := 2) rfl (.cons (t := 6) rfl (.cons (t := 7) rfl (.cons (t := 8) rfl (.cons (t := 9) rfl (.eq (t := 21) rfl (by first | (simp [hb4]; done) | (simp only [hb4, Bool.true_and, Bool.false_and, Bool.true_or, Bool.false_or, Bool.and_true, Bool.and_false]; done)) .nil))))))), hH.hs (.seg .here (.seg .here .all))⟩
    rintro aa ww ⟨hL, hH⟩
    refine Then.run hL hH ?_
    clear hL hH aa ww
    refine t_cond rfl (fun c21 => ?_) (fun c21 => ?_)
    · skip
      try simp only [Bool.or_eq_true, Bool.and_eq_true, decide_eq_true_eq, Bool.not_eq_true', decide_eq_false_iff_not] at c21
      refine t_skip ?_
      refine e_next ?_
      refine t_seq ?_
      refine t_block ?_
      refine t_seq ?_
      refine t_region ?_
      refine l_op rfl (o_val rfl rfl (r_move rfl rfl) ?_)
      refine l_op rfl (o_val rfl rfl (r_move rfl rfl) ?_)
      refine l_op rfl (o_val rfl rfl (r_move rfl rfl) ?_)
      obtain ⟨b5, o5, cs5, T5, fz5, ha5, hm5, hr5⟩ := SliceAt.opn hsl2 (by omega)
      refine l_op rfl (o_val rfl rfl (r_indexAddr rfl rfl ha5 rfl Try.underlying22 Try.sizeOf30 (by omega) (by omega)) ?_)
      refine l_op rfl (o_val rfl rfl (r_loadAgg rfl Try.isAgg30 Try.sizeOf30 rfl ((fun p hp => (List.mem_append_right _ (List.mem_append_left _ hp))) _ hm5) (Row.elem hr5 (getBangI (l := (risingD l)) (j := (((i : Nat) : Int))) (i := i) (by first | rfl | omega) (by have hh_ := SliceAt.len hsl2; omega))) rfl) ?_)
      refine l_op rfl (o_call rfl rfl rfl Try.call14 rfl (in_c (l := m) (d := ((risingD l)[i]!)) (SliceAt.mono hm (fun p hp => (List.mem_append_right _ (List.mem_append_right _ hp)))) (by omega)) ?_)
      rintro _ _ ⟨rfl, X6, rfl⟩
      refine l_op rfl (o_val rfl rfl (r_notdec rfl rfl) ?_)
      refine l_nil ?_
      refine e_next ?_
      refine t_dec rfl (fun c30 => ?_) (fun c30 => ?_)
      · skip
        refine t_region ?_
        refine l_op rfl (o_val rfl rfl (r_move rfl rfl) ?_)
        refine l_op rfl (o_val rfl rfl (r_move rfl rfl) ?_)
        refine l_op rfl (o_val rfl rfl (r_move rfl rfl) ?_)
        refine l_op rfl (o_val rfl rfl (r_indexAddr rfl rfl ha5 rfl Try.underlying22 Try.sizeOf30 (by omega) (by omega)) ?_)
        refine l_op rfl (o_val rfl rfl (r_loadAgg rfl Try.isAgg30 Try.sizeOf30 rfl ((fun p hp => (List.mem_append_right _ (List.mem_append_right _ (List.mem_append_left _ hp)))) _ hm5) (Row.elem hr5 (getBangI (l := (risingD l)) (j := (((i : Nat) : Int))) (i := i) (by first | rfl | omega) (by have hh_ := SliceAt.len hsl2; omega))) rfl) ?_)
        refine l_op rfl (o_slice1 rfl rfl rfl rfl rfl Try.underlying22 Try.sizeOf30 Try.zeroValue30 rfl rfl (by omega) ?_)
        intro b7
        refine l_op rfl (o_appendS (enc := encDig) (xs := (keepOut m ((risingD l).take i))) (l := [((risingD l)[i]!)]) rfl rfl rfl rfl rfl Try.underlying22 Try.type30 rfl rfl rfl rfl (fun _ => rfl) (fun _ => rfl) ho7 (.tail (.app .here)) (sliceAt_one (enc := encDig) (a := ((risingD l)[i]!)) rfl List.mem_cons_self) (by show (_ + _) * 32 ≤ _; (try simp only [List.length_nil, List.length_cons, List.length_append, List.length_map, List.length_take, List.length_replicate, List.length_drop]); omega) (by (try simp only [List.length_nil, List.length_cons, List.length_append, List.length_map, List.length_take, List.length_replicate, List.length_drop]); omega) ?_)
        intro v8 X8 ho8
        refine l_op rfl (o_val rfl rfl (r_assign rfl rfl) ?_)
        refine l_nil ?_
        refine e_block _ ?_
        refine e_next ?_
        refine t_region ?_
        refine l_op rfl (o_val rfl rfl (r_move rfl rfl) ?_)
        refine l_op rfl (o_val rfl rfl (r_add rfl rfl rfl (by omega) (by omega)) ?_)
        refine l_op rfl (o_val rfl rfl (r_assign rfl rfl) ?_)
        refine l_nil ?_
        refine Then.slots (.cons (t := 1) rfl (.cons (t := 2) rfl (.cons (t := 6) rfl (.cons (t := 7) rfl (.cons (t := 8) rfl (.cons (t := 9) rfl .nil)))))) ?_
        intro aa ww hL hH
        exact ⟨_, by omega, (i + 1), (v8), X8, rfl, by omega, (by rw [keepOut_snoc (by omega), if_neg c30, List.length_append]; have := c21.2; simp only [List.length_cons, List.length_nil]; omega), (Own.cast (enc := encDig) (by rw [keepOut_snoc (by omega), if_neg c30]) ho8), hL.sub (.cons (t := 1) rfl (.cons (t := 2) rfl (.cons (t := 6) rfl (.cons (t := 7) rfl (.cons (t := 8) rfl (.eq (t := 9) rfl (congrArg (Value.int .i64) (by first | rfl | omega | (simp only [Int.toNat_natCast]; omega))) .nil)))))), hH.hs (.seg .here (.seg (.tail (.app .here)) (.drop (.dropS .all))))⟩
      · skip
        refine t_skip ?_
        refine e_block _ ?_
        refine e_next ?_
        refine t_region ?_
        refine l_op rfl (o_val rfl rfl (r_move rfl rfl) ?_)
        refine l_op rfl (o_val rfl rfl (r_add rfl rfl rfl (by omega) (by omega)) ?_)
        refine l_op rfl (o_val rfl rfl (r_assign rfl rfl) ?_)
        refine l_nil ?_
        intro aa ww hL hH
        exact ⟨_, by omega, (i + 1), (.slice a3 ((keepOut m ((risingD l).take i))).length c3), Xo7, rfl, by omega, (by rw [keepOut_snoc (by omega), if_pos (Decidable.of_not_not c30)]; exact hb), (Own.cast (enc := encDig) (by rw [keepOut_snoc (by omega), if_pos (Decidable.of_not_not c30)]) ho7), hL.sub (.cons (t := 1) rfl (.cons (t := 2) rfl (.cons (t := 6) rfl (.cons (t := 7) rfl (.cons (t := 8) rfl (.eq (t := 9) rfl (congrArg (Value.int .i64) (by first | rfl | omega | (simp only [Int.toNat_natCast]; omega))) .nil)))))), hH.hs (.seg (.app .here) (.seg (.app .here) (.dropS .all)))⟩
    · skip
      try simp only [Bool.or_eq_false_iff, Bool.and_eq_false_iff, decide_eq_false_iff_not, Bool.not_eq_false', decide_eq_true_eq] at c21
      refine t_exit ?_
      refine e_pass_exit ?_
      refine e_pass_exit ?_
      refine e_block_here ?_
      refine e_next ?_
      refine t_seq ?_
      refine t_region ?_
      refine l_op rfl (o_val rfl rfl (r_move rfl rfl) ?_)
      refine l_op rfl (o_val rfl rfl (r_assign rfl rfl) ?_)
      refine l_nil ?_
      refine e_next ?_
      refine t_ret ?_
      refine Then.mem (.seg .here (.dropS .all)) ?_
      exact e_ret rfl (.tmp rfl .nil) ⟨.slice a3 ((keepOut m ((risingD l).take i))).length c3, Xo7, rfl, rfl, (Own.cast (missing_end hb hi c21) ho7)⟩

set_option maxHeartbeats 2000000 in
set_option maxRecDepth 100000 in
theorem compactB {E : Env} {H : Heap} {b cap : Nat} {l : List Dig} {jk : List Value} (hcl : l.length ≤ cap) (hl : l.length ≤ 1073741824) :
    Fn Try.prog 18 [.slice (some ⟨b, 0, none⟩) l.length cap] E ((b, .cells (rows encDig l jk).toArray 30 (0, 0)) :: H) (fun v H2 => ∃ (k : Nat) (l2 : List Dig) (X : Heap), v = .slice (some ⟨b, 0, none⟩) k cap ∧ H2 = X ++ ((b, .cells (rows encDig l2 jk).toArray 30 (0, 0)) :: H) ∧ l2.length = l.length ∧ k ≤ l.length ∧ l2.take k = dedup l) := by
  refine Fn.of_body (N := 61) Try.func18 rfl rfl rfl ?_
  refine t_seq ?_
  refine t_region ?_
  refine l_op rfl (o_val rfl rfl (r_assign rfl rfl) ?_)
  refine l_nil ?_
  refine e_next ?_
  refine t_seq ?_
  refine t_seq ?_
  refine t_region ?_
  refine l_op rfl (o_val rfl rfl (r_move rfl rfl) ?_)
  refine l_op rfl (o_val rfl rfl (r_len rfl rfl Try.underlying22) ?_)
  refine l_op rfl (o_val rfl rfl (r_lt rfl rfl rfl) ?_)
  refine l_nil ?_
  refine e_next ?_
  refine t_dec rfl (fun c8 => ?_) (fun c8 => ?_)
  · skip
    refine t_seq ?_
    refine t_region ?_
    refine l_op rfl (o_val rfl rfl (r_move rfl rfl) ?_)
    refine l_op rfl (o_val rfl rfl (r_assign rfl rfl) ?_)
    refine l_nil ?_
    refine e_next ?_
    refine t_ret ?_
    refine e_pass_ret ?_
    refine Then.mem (.cell .head .all) ?_
    exact e_ret rfl (.tmp rfl .nil) ⟨l.length, l, [], rfl, rfl, rfl, Nat.le_refl _, cp_all (k := 1) (fun j h1 h2 => by omega) (by omega)⟩
  · skip
    refine t_skip ?_
    refine e_next ?_
    refine t_seq ?_
    refine t_seq ?_
    refine t_region ?_
    refine l_op rfl (o_val rfl rfl (r_assign rfl rfl) ?_)
    refine l_nil ?_
    refine e_next ?_
    refine t_block ?_
    refine t_loop (fun (mz : Nat) aa ww => ∃ (k : Nat), mz = l.length - k ∧ (1 ≤ k ∧ k ≤ l.length) ∧ (∀ j, 0 < j → j < k → l[j]! ≠ l[j - 1]!) ∧ Sl 61 [(0, .slice (some ⟨b, 0, none⟩) (l).length cap), (3, .int .i64 (((k : Nat) : Int)))] aa ∧ Holds E ((b, .cells (rows encDig l jk).toArray 30 (0, 0)) :: H) ww) (l.length - 1) ?_ ?_
    · intro aa ww hL hH
      exact ⟨1, rfl, by omega, (fun j h1 h2 => by omega), hL.sub (.cons (t := 0) rfl (.eq (t := 3) rfl (congrArg (Value.int .i64) (by first | rfl | omega | (simp only [Int.toNat_natCast]; omega))) .nil)), hH.hs (.cell .head .all)⟩
    · skip
      rintro mz aa ww ⟨k, hmz, hk, hne, hL, hH⟩
      refine Then.run hL hH ?_
      clear hL hH aa ww
      refine t_seq ?_
      refine t_seq ?_
      refine t_region ?_
      refine l_op rfl (o_val rfl rfl (r_move rfl rfl) ?_)
      refine l_op rfl (o_val rfl rfl (r_move rfl rfl) ?_)
      refine l_op rfl (o_val rfl rfl (r_len rfl rfl Try.underlying22) ?_)
      refine l_op rfl (o_val rfl rfl (r_lt rfl rfl rfl) ?_)
      refine l_nil ?_
      refine e_next ?_
      refine t_dec rfl (fun c13 => ?_) (fun c13 => ?_)
      · skip
        refine t_skip ?_
        refine e_next ?_
        refine t_seq ?_
        refine t_block ?_
        refine t_seq ?_
        refine t_draw (n := 10) .all rfl (by kernel_rfl) ?_
        refine a_take (i := 0) rfl rfl rfl rfl (by kernel_rfl) (by kernel_rfl) (by kernel_rfl) (fun _ _ _ h => h) .all (r_move rfl rfl) ?_
        refine a_take (i := 1) rfl rfl rfl rfl (by kernel_rfl) (by kernel_rfl) (by kernel_rfl) (fun _ _ _ h => h) .all (r_move rfl rfl) ?_
        refine a_take (i := 2) rfl rfl rfl rfl (by kernel_rfl) (by kernel_rfl) (by kernel_rfl) (fun _ _ _ h => h) .all (r_indexAddr rfl rfl rfl rfl Try.underlying22 Try.sizeOf30 (by omega) (by omega)) ?_
        refine a_take (i := 3) rfl rfl rfl rfl (by kernel_rfl) (by kernel_rfl) (by kernel_rfl) (fun _ _ _ h => h) .all (r_loadAgg (xs := encDig (l[k]!)) rfl Try.isAgg30 Try.sizeOf30 rfl List.mem_cons_self (rows_at (sz := 32) (fun _ => rfl) (by omega) (by have hh_ := (Eq.refl l.length); omega)) rfl) ?_
        refine a_take (i := 4) rfl rfl rfl rfl (by kernel_rfl) (by kernel_rfl) (by kernel_rfl) (fun _ _ _ h => h) .all (r_move rfl rfl) ?_
        refine a_take (i := 5) rfl rfl rfl rfl (by kernel_rfl) (by kernel_rfl) (by kernel_rfl) (fun _ _ _ h => h) .all (r_move rfl rfl) ?_
        refine a_take (i := 6) rfl rfl rfl rfl (by kernel_rfl) (by kernel_rfl) (by kernel_rfl) (fun _ _ _ h => h) .all (r_sub rfl rfl rfl (by omega) (by omega)) ?_
        refine a_take (i := 7) rfl rfl rfl rfl (by kernel_rfl) (by kernel_rfl) (by kernel_rfl) (fun _ _ _ h => h) .all (r_indexAddr rfl rfl rfl rfl Try.underlying22 Try.sizeOf30 (by omega) (by omega)) ?_
        refine a_take (i := 8) rfl rfl rfl rfl (by kernel_rfl) (by kernel_rfl) (by kernel_rfl) (fun _ _ _ h => h) .all (r_loadAgg (xs := encDig (l[(k - 1)]!)) rfl Try.isAgg30 Try.sizeOf30 rfl List.mem_cons_self (rows_at (sz := 32) (fun _ => rfl) (by omega) (by have hh_ := (Eq.refl l.length); omega)) rfl) ?_
        refine a_take (i := 9) rfl rfl rfl rfl (by kernel_rfl) (by kernel_rfl) (by kernel_rfl) (fun _ _ _ h => h) .all (r_eqDeep (m := 2) rfl rfl rfl (by kernel_rfl) (by kernel_rfl) rfl (by kernel_rfl) (by kernel_rfl) (keyLits_dig Try.underlying30 Try.underlying5 (by kernel_rfl) (by kernel_rfl) _ 0) (keyLits_dig Try.underlying30 Try.underlying5 (by kernel_rfl) (by kernel_rfl) _ 0) digLits_inj) ?_
        refine a_done (by kernel_rfl) ?_
        refine e_next ?_
        refine t_dec rfl (fun c25 => ?_) (fun c25 => ?_)
        · skip
          refine t_seq ?_
          refine t_region ?_
          refine l_op rfl (o_val rfl rfl (r_move rfl rfl) ?_)
          refine l_op rfl (o_val rfl rfl (r_move rfl rfl) ?_)
          refine l_op rfl (o_val rfl rfl (Run.eq (v' := .slice (slAddr (some ⟨b, 0, none⟩) cap k 32) ((l).length - k) (cap - k)) (r_sliceFrom rfl rfl rfl Try.underlying22 Try.sizeOf30 (by omega) (by omega)) (by first | rfl | (rw [show Int.toNat (((k : Nat) : Int)) = k by omega]))) ?_)
          refine l_op rfl (o_val rfl rfl (r_assign rfl rfl) ?_)
          refine l_nil ?_
          refine e_next ?_
          refine t_seq ?_
          refine t_seq ?_
          refine t_region ?_
          refine l_op rfl (o_val rfl rfl (r_assign rfl rfl) ?_)
          refine l_nil ?_
          refine e_next ?_
          refine t_block ?_
          refine t_loop (fun (mz : Nat) aa ww => ∃ (k2 : Nat) (k1 : Nat) (cur : List Dig), mz = l.length - k2 ∧ (cur.length = l.length) ∧ (1 ≤ k2 ∧ k + k2 ≤ l.length) ∧ (k1 ≤ k + k2 - 1) ∧ (cur.take k1 = keepNew l (k + k2)) ∧ (cur.drop (k + k2 - 1) = l.drop (k + k2 - 1)) ∧ Sl 61 [(0, .slice (some ⟨b, 0, none⟩) (l).length cap), (3, .int .i64 (((k1 : Nat) : Int))), (4, .slice (slAddr (some ⟨b, 0, none⟩) cap k 32) ((l).length - k) (cap - k)), (5, .int .i64 (((k2 : Nat) : Int)))] aa ∧ Holds E ((b, .cells (rows encDig cur jk).toArray 30 (0, 0)) :: H) ww) (l.length - 1) ?_ ?_
          · intro aa ww hL hH
            exact ⟨1, k, l, rfl, rfl, by omega, by omega, (cp_start hne hk.1 (by omega) c25), rfl, hL.sub (.cons (t := 0) rfl (.eq (t := 3) rfl (congrArg (Value.int .i64) (by first | rfl | omega | (simp only [Int.toNat_natCast]; omega))) (.cons (t := 4) rfl (.eq (t := 5) rfl (congrArg (Value.int .i64) (by first | rfl | omega | (simp only [Int.toNat_natCast]; omega))) .nil)))), hH.hs (.cell .head .all)⟩
          · skip
            rintro mz aa ww ⟨k2, k1, cur, hmz, hcur, h2, h1, htk, hdr, hL, hH⟩
            refine Then.run hL hH ?_
            clear hL hH aa ww
            refine t_seq ?_
            refine t_seq ?_
            refine t_region ?_
            refine l_op rfl (o_val rfl rfl (r_move rfl rfl) ?_)
            refine l_op rfl (o_val rfl rfl (r_move rfl rfl) ?_)
            refine l_op rfl (o_val rfl rfl (r_len rfl rfl Try.underlying22) ?_)
            refine l_op rfl (o_val rfl rfl (r_lt rfl rfl rfl) ?_)
            refine l_nil ?_
            refine e_next ?_
            refine t_dec rfl (fun c32 => ?_) (fun c32 => ?_)
            · skip
              refine t_skip ?_
              refine e_next ?_
              refine t_seq ?_
              refine t_block ?_
              refine t_seq ?_
              refine t_draw (n := 10) .all rfl (by kernel_rfl) ?_
              refine a_take (i := 0) rfl rfl rfl rfl (by kernel_rfl) (by kernel_rfl) (by kernel_rfl) (fun _ _ _ h => h) .all (r_move rfl rfl) ?_
              refine a_take (i := 1) rfl rfl rfl rfl (by kernel_rfl) (by kernel_rfl) (by kernel_rfl) (fun _ _ _ h => h) .all (r_move rfl rfl) ?_
              refine a_take (i := 2) rfl rfl rfl rfl (by kernel_rfl) (by kernel_rfl) (by kernel_rfl) (fun _ _ _ h => h) .all (r_indexAddr rfl rfl (slAddr_some (b := b) (off := 0) (l := k) (m := 32) (by omega)) rfl Try.underlying22 Try.sizeOf30 (by omega) (by omega)) ?_
              refine a_take (i := 3) rfl rfl rfl rfl (by kernel_rfl) (by kernel_rfl) (by kernel_rfl) (fun _ _ _ h => h) .all (r_loadAgg (xs := encDig (cur[(k + k2)]!)) rfl Try.isAgg30 Try.sizeOf30 rfl List.mem_cons_self (rows_at (sz := 32) (fun _ => rfl) (by omega) (by have hh_ := hcur; omega)) rfl) ?_
              refine a_take (i := 4) rfl rfl rfl rfl (by kernel_rfl) (by kernel_rfl) (by kernel_rfl) (fun _ _ _ h => h) .all (r_move rfl rfl) ?_
              refine a_take (i := 5) rfl rfl rfl rfl (by kernel_rfl) (by kernel_rfl) (by kernel_rfl) (fun _ _ _ h => h) .all (r_move rfl rfl) ?_
              refine a_take (i := 6) rfl rfl rfl rfl (by kernel_rfl) (by kernel_rfl) (by kernel_rfl) (fun _ _ _ h => h) .all (r_sub rfl rfl rfl (by omega) (by omega)) ?_
              refine a_take (i := 7) rfl rfl rfl rfl (by kernel_rfl) (by kernel_rfl) (by kernel_rfl) (fun _ _ _ h => h) .all (r_indexAddr rfl rfl (slAddr_some (b := b) (off := 0) (l := k) (m := 32) (by omega)) rfl Try.underlying22 Try.sizeOf30 (by omega) (by omega)) ?_
              refine a_take (i := 8) rfl rfl rfl rfl (by kernel_rfl) (by kernel_rfl) (by kernel_rfl) (fun _ _ _ h => h) .all (r_loadAgg (xs := encDig (cur[(k + (k2 - 1))]!)) rfl Try.isAgg30 Try.sizeOf30 rfl List.mem_cons_self (rows_at (sz := 32) (fun _ => rfl) (by omega) (by have hh_ := hcur; omega)) rfl) ?_
              refine a_take (i := 9) rfl rfl rfl rfl (by kernel_rfl) (by kernel_rfl) (by kernel_rfl) (fun _ _ _ h => h) .all (r_neDeep (m := 2) rfl rfl rfl (by kernel_rfl) (by kernel_rfl) rfl (by kernel_rfl) (by kernel_rfl) (keyLits_dig Try.underlying30 Try.underlying5 (by kernel_rfl) (by kernel_rfl) _ 0) (keyLits_dig Try.underlying30 Try.underlying5 (by kernel_rfl) (by kernel_rfl) _ 0) digLits_inj) ?_
              refine a_done (by kernel_rfl) ?_
              refine e_next ?_
              refine t_dec rfl (fun c44 => ?_) (fun c44 => ?_)
              · skip
                refine t_seq ?_
                refine t_region ?_
                refine l_op rfl (o_val rfl rfl (r_move rfl rfl) ?_)
                refine l_op rfl (o_val rfl rfl (r_move rfl rfl) ?_)
                refine l_op rfl (o_val rfl rfl (r_move rfl rfl) ?_)
                refine l_op rfl (o_val rfl rfl (r_move rfl rfl) ?_)
                refine l_op rfl (o_val rfl rfl (r_indexAddr rfl rfl (slAddr_some (b := b) (off := 0) (l := k) (m := 32) (by omega)) rfl Try.underlying22 Try.sizeOf30 (by omega) (by omega)) ?_)
                refine l_op rfl (o_val rfl rfl (r_loadAgg (xs := encDig (cur[(k + k2)]!)) rfl Try.isAgg30 Try.sizeOf30 rfl List.mem_cons_self (rows_at (sz := 32) (fun _ => rfl) (by omega) (by have hh_ := hcur; omega)) rfl) ?_)
                refine l_op rfl (o_val rfl rfl (r_indexAddr rfl rfl rfl rfl Try.underlying22 Try.sizeOf30 (by omega) (by omega)) ?_)
                refine l_op rfl (o_storeRow (sz := 32) (enc := encDig) (a0 := (cur[(k + k2)]!)) (i := k1) rfl rfl rfl rfl (encDig_one _) (fun _ => rfl) Try.sizeOf30 .head (by omega) (by have hh_ := hcur; omega) ?_)
                refine l_nil ?_
                refine Then.slots (.cons (t := 0) rfl (.cons (t := 3) rfl (.cons (t := 4) rfl (.cons (t := 5) rfl .nil)))) ?_
                refine e_next ?_
                refine t_region ?_
                refine l_op rfl (o_val rfl rfl (r_move rfl rfl) ?_)
                refine l_op rfl (o_val rfl rfl (r_add rfl rfl rfl (by omega) (by omega)) ?_)
                refine l_op rfl (o_val rfl rfl (r_assign rfl rfl) ?_)
                refine l_nil ?_
                refine e_block _ ?_
                refine e_next ?_
                refine t_region ?_
                refine l_op rfl (o_val rfl rfl (r_move rfl rfl) ?_)
                refine l_op rfl (o_val rfl rfl (r_add rfl rfl rfl (by omega) (by omega)) ?_)
                refine l_op rfl (o_val rfl rfl (r_assign rfl rfl) ?_)
                refine l_nil ?_
                rw [show k + (k2 - 1) = k + k2 - 1 by omega] at c44
                obtain ⟨hta, hdr2⟩ := cp_yes hcur htk hdr (by omega) (by omega) (by omega) c44
                intro aa ww hL hH
                exact ⟨_, by omega, (k2 + 1), (k1 + 1), (cur.set k1 (cur[(k + k2)]!)), rfl, (by simpa using hcur), by omega, by omega, hta, hdr2, hL.sub (.cons (t := 0) rfl (.eq (t := 3) rfl (congrArg (Value.int .i64) (by first | rfl | omega | (simp only [Int.toNat_natCast]; omega))) (.cons (t := 4) rfl (.eq (t := 5) rfl (congrArg (Value.int .i64) (by first | rfl | omega | (simp only [Int.toNat_natCast]; omega))) .nil)))), hH.hs (.cell .head .all)⟩
              · skip
                refine t_skip ?_
                refine e_block _ ?_
                refine e_next ?_
                refine t_region ?_
                refine l_op rfl (o_val rfl rfl (r_move rfl rfl) ?_)
                refine l_op rfl (o_val rfl rfl (r_add rfl rfl rfl (by omega) (by omega)) ?_)
                refine l_op rfl (o_val rfl rfl (r_assign rfl rfl) ?_)
                refine l_nil ?_
                rw [show k + (k2 - 1) = k + k2 - 1 by omega] at c44
                obtain ⟨hta, hdr2⟩ := cp_no htk hdr (by omega) (Decidable.of_not_not c44)
                intro aa ww hL hH
                exact ⟨_, by omega, (k2 + 1), k1, cur, rfl, (by simpa using hcur), by omega, by omega, hta, hdr2, hL.sub (.cons (t := 0) rfl (.eq (t := 3) rfl (congrArg (Value.int .i64) (by first | rfl | omega | (simp only [Int.toNat_natCast]; omega))) (.cons (t := 4) rfl (.eq (t := 5) rfl (congrArg (Value.int .i64) (by first | rfl | omega | (simp only [Int.toNat_natCast]; omega))) .nil)))), hH.hs (.cell .head .all)⟩
            · skip
              refine t_exit ?_
              refine e_pass_exit ?_
              refine e_pass_exit ?_
              refine e_block_here ?_
              refine e_next ?_
              refine t_seq ?_
              refine t_region ?_
              refine l_op rfl (o_val rfl rfl (r_move rfl rfl) ?_)
              refine l_op rfl (o_val rfl rfl (r_move rfl rfl) ?_)
              refine l_op rfl (o_val rfl rfl (Run.eq (v' := .slice (slAddr (some ⟨b, 0, none⟩) cap k1 32) ((l).length - k1) (cap - k1)) (r_sliceFrom rfl rfl rfl Try.underlying22 Try.sizeOf30 (by omega) (by omega)) (by first | rfl | (rw [show Int.toNat (((k1 : Nat) : Int)) = k1 by omega]))) ?_)
              refine l_op rfl (o_clearRow (sz := 32) (enc := encDig) (z := Dig.zero) rfl rfl rfl Try.underlying22 Try.zeroValue30 (by kernel_rfl) (encDig_one _) (fun _ => rfl) .head (by have hh_ := hcur; omega) (by omega) (by omega) ?_)
              refine l_nil ?_
              refine e_next ?_
              refine t_seq ?_
              refine t_region ?_
              refine l_op rfl (o_val rfl rfl (r_move rfl rfl) ?_)
              refine l_op rfl (o_val rfl rfl (r_move rfl rfl) ?_)
              refine l_op rfl (o_val rfl rfl (Run.eq (v' := .slice (some ⟨b, 0, none⟩) k1 cap) (r_sliceTo rfl rfl rfl Try.underlying22 Try.sizeOf30 (by omega) (by omega)) (by first | rfl | (rw [show Int.toNat (((k1 : Nat) : Int)) = k1 by omega]))) ?_)
              refine l_op rfl (o_val rfl rfl (r_assign rfl rfl) ?_)
              refine l_nil ?_
              refine e_next ?_
              refine t_ret ?_
              refine e_block_ret ?_
              refine e_pass_ret ?_
              refine e_pass_ret ?_
              refine e_block_ret ?_
              refine e_pass_ret ?_
              refine Then.mem (.cell .head .all) ?_
              exact e_ret rfl (.tmp rfl .nil) ⟨k1, (cur.take k1 ++ List.replicate ((l).length - k1) Dig.zero), [], rfl, rfl, (by have hh_ : (cur.take k1 ++ List.replicate ((l).length - k1) Dig.zero).length = l.length := (clear_len hcur (by omega)); omega), by omega, (by rw [clear_take (by omega), htk]; unfold dedup; congr 1; omega)⟩
        · skip
          refine t_skip ?_
          refine e_block _ ?_
          refine e_next ?_
          refine t_region ?_
          refine l_op rfl (o_val rfl rfl (r_move rfl rfl) ?_)
          refine l_op rfl (o_val rfl rfl (r_add rfl rfl rfl (by omega) (by omega)) ?_)
          refine l_op rfl (o_val rfl rfl (r_assign rfl rfl) ?_)
          refine l_nil ?_
          intro aa ww hL hH
          exact ⟨_, by omega, (k + 1), rfl, by omega, (cp_next hne c25), hL.sub (.cons (t := 0) rfl (.eq (t := 3) rfl (congrArg (Value.int .i64) (by first | rfl | omega | (simp only [Int.toNat_natCast]; omega))) .nil)), hH.hs (.cell .head .all)⟩
      · skip
        refine t_exit ?_
        refine e_pass_exit ?_
        refine e_pass_exit ?_
        refine e_block_here ?_
        refine e_next ?_
        refine t_seq ?_
        refine t_region ?_
        refine l_op rfl (o_val rfl rfl (r_move rfl rfl) ?_)
        refine l_op rfl (o_val rfl rfl (r_assign rfl rfl) ?_)
        refine l_nil ?_
        refine e_next ?_
        refine t_ret ?_
        refine Then.mem (.cell .head .all) ?_
        exact e_ret rfl (.tmp rfl .nil) ⟨l.length, l, [], rfl, rfl, rfl, Nat.le_refl _, cp_all hne (by omega)⟩

end Go.Sal.Sh
