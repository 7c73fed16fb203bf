/- The walks: printed by a program of this repo (wip/gen). -/
import Derived.Test.YtpahhlbgomcnjaaS5
set_option linter.unusedVariables false
set_option linter.unusedSimpArgs false
namespace Go.Sal.Sh
open Go Go.Sal Go.Proofs
set_option maxHeartbeats 2000000 in
set_option maxRecDepth 100000 in
theorem shipMissing_c {E : Env} {H : Heap} {a : Option Addr} {n c : Nat} {l : List Dig} (hs : SliceAt H encDig 32 a n c l) {ba : Option Addr} {bn bc : Nat} {m : List Dig} (hm : SliceAt H encDig 32 ba bn bc m) {most : Int} :
    Fn Try.prog 3 [.slice a n c, .slice ba bn bc, .int .i64 most] E H (fun v H2 => v = .bool true ∧ ∃ X, H2 = X ++ H) := by
  have hln := hs.len
  have hlm := hm.len
  have := hs.cap
  have := hm.cap
  refine Fn.of_body (N := 30) Try.func3 rfl rfl rfl ?_
  refine t_seq ?_
  refine t_region ?_
  refine l_op rfl (o_val rfl rfl (r_assign rfl rfl) ?_)
  refine l_nil ?_
  refine e_next ?_
  refine t_seq ?_
  refine t_region ?_
  refine l_op rfl (o_val rfl rfl (r_move rfl rfl) ?_)
  refine l_op rfl (o_call rfl rfl rfl Try.call5 rfl (few_c (a := a) (n := n) (c := c) (SliceAt.cap hs)) ?_)
  rintro _ _ ⟨rfl, he⟩
  rw [he]
  clear he
  have := few_len l 200
  refine l_op rfl (o_val rfl rfl (r_move rfl rfl) ?_)
  refine l_op rfl (o_call rfl rfl rfl Try.call5 rfl (few_c (a := ba) (n := bn) (c := bc) (SliceAt.cap hm)) ?_)
  rintro _ _ ⟨rfl, he⟩
  rw [he]
  clear he
  have := few_len m 200
  refine l_op rfl (o_val rfl rfl (r_assign rfl rfl) ?_)
  refine l_op rfl (o_val rfl rfl (r_assign rfl rfl) ?_)
  refine l_nil ?_
  refine e_next ?_
  refine t_seq ?_
  refine t_region ?_
  refine l_op rfl (o_val rfl rfl (r_move rfl rfl) ?_)
  refine l_op rfl (o_val rfl rfl (r_move rfl rfl) ?_)
  refine l_op rfl (o_val rfl rfl (r_move rfl rfl) ?_)
  refine l_op rfl (o_call rfl rfl rfl Try.call7 rfl (smissing_c (l := (l.take 200)) (m := (m.take 200)) (most := most) (SliceAt.mono (SliceAt.takeMin 200 hs) (fun p hp => hp)) (SliceAt.mono (SliceAt.takeMin 200 hm) (fun p hp => hp)) (by omega) (by omega)) ?_)
  rintro _ _ ⟨a1, n1, c1, X1, rfl, rfl, hs1⟩
  have hln1 := hs1.len
  have hcp1 := SliceAt.cap hs1
  have := missing_len (l.take 200) (m.take 200) most
  have := keepOut_le (m := (m.take 200)) (l := risingD (l.take 200))
  have := risingD_length (l.take 200)
  refine l_op rfl (o_val rfl rfl (r_move rfl rfl) ?_)
  refine l_op rfl (o_val rfl rfl (r_move rfl rfl) ?_)
  refine l_op rfl (o_val rfl rfl (r_move rfl rfl) ?_)
  refine l_op rfl (o_call rfl rfl rfl Try.call8 rfl (missing20_c (l := (l.take 200)) (m := (m.take 200)) (most := most) (SliceAt.mono (SliceAt.takeMin 200 hs) (fun p hp => (List.mem_append_right _ hp))) (SliceAt.mono (SliceAt.takeMin 200 hm) (fun p hp => (List.mem_append_right _ hp))) (by omega) (by omega)) ?_)
  rintro _ _ ⟨v2, X2, rfl, rfl, ho2⟩
  have := missing_len (l.take 200) (m.take 200) most
  have := keepOut_le (m := (m.take 200)) (l := risingD (l.take 200))
  have := risingD_length (l.take 200)
  obtain ⟨a3, c3, hv3, hsl3⟩ := Own.at (enc := encDig) (l := (missingD (l.take 200) (m.take 200) most)) ho2
  subst hv3
  have hcp3 := SliceAt.cap hsl3
  refine l_op rfl (o_call rfl rfl rfl Try.call6 rfl (same_c (l := (missingD (l.take 200) (m.take 200) most)) (m := (missingD (l.take 200) (m.take 200) most)) (SliceAt.mono hs1 (fun p hp => (List.mem_append_right _ (List.mem_append_left _ hp)))) (SliceAt.mono hsl3 (fun p hp => (List.mem_append_left _ hp))) (by omega)) ?_)
  rintro _ _ ⟨rfl, he⟩
  rw [he, decide_eq_true (rfl : (missingD (l.take 200) (m.take 200) most) = (missingD (l.take 200) (m.take 200) most))]
  clear he
  refine l_op rfl (o_val rfl rfl (r_move rfl rfl) ?_)
  refine l_yes rfl rfl rfl (o_val rfl rfl (r_move rfl rfl) ?_)
  refine l_yes rfl rfl rfl (o_call rfl rfl rfl Try.call9 rfl (srising_c (l := (l.take 200)) (SliceAt.mono (SliceAt.takeMin 200 hs) (fun p hp => (List.mem_append_right _ (List.mem_append_right _ hp)))) (by omega)) ?_)
  rintro _ _ ⟨v4, X4, rfl, rfl, ho4⟩
  have := risingD_length ((l.take 200))
  refine l_yes rfl rfl rfl (o_val rfl rfl (r_move rfl rfl) ?_)
  refine l_yes rfl rfl rfl (o_call rfl rfl rfl Try.call10 rfl (rising20_c (l := (l.take 200)) (SliceAt.mono (SliceAt.takeMin 200 hs) (fun p hp => (List.mem_append_right _ (List.mem_append_right _ (List.mem_append_right _ hp))))) (by omega)) ?_)
  rintro _ _ ⟨v5, X5, rfl, rfl, ho5⟩
  have := risingD_length (l.take 200)
  obtain ⟨a6, c6, hv6, hsl6⟩ := Own.at (enc := encDig) (l := (risingD (l.take 200))) ho4
  subst hv6
  have hcp6 := SliceAt.cap hsl6
  obtain ⟨a7, c7, hv7, hsl7⟩ := Own.at (enc := encDig) (l := (risingD (l.take 200))) ho5
  subst hv7
  have hcp7 := SliceAt.cap hsl7
  refine l_yes rfl rfl rfl (o_call rfl rfl rfl Try.call6 rfl (same_c (l := (risingD (l.take 200))) (m := (risingD (l.take 200))) (SliceAt.mono hsl6 (fun p hp => (List.mem_append_right _ (List.mem_append_left _ hp)))) (SliceAt.mono hsl7 (fun p hp => (List.mem_append_left _ hp))) (by omega)) ?_)
  rintro _ _ ⟨rfl, he⟩
  rw [he, decide_eq_true (rfl : (risingD (l.take 200)) = (risingD (l.take 200)))]
  clear he
  refine l_op rfl (o_val rfl rfl (r_pickt rfl rfl rfl) ?_)
  refine l_op rfl (o_val rfl rfl (r_move rfl rfl) ?_)
  refine l_yes rfl rfl rfl (o_call rfl rfl rfl Try.call11 rfl (awake_c) ?_)
  rintro _ _ ⟨rfl, X8, rfl⟩
  refine l_op rfl (o_val rfl rfl (r_pickt rfl rfl rfl) ?_)
  refine l_op rfl (o_val rfl rfl (r_assign rfl rfl) ?_)
  refine l_nil ?_
  refine Then.slots (.cons (t := 6) rfl .nil) ?_
  refine e_next ?_
  refine t_ret ?_
  exact e_ret rfl (.tmp rfl .nil) ⟨rfl, Pre.ex (.app (.app (.app (.app (.app .refl)))))⟩

set_option maxHeartbeats 2000000 in
set_option maxRecDepth 100000 in
theorem shipTurns_c {E : Env} {H : Heap} {a : Option Addr} {n c : Nat} {l : List Dig} (hs : SliceAt H encDig 32 a n c l) {ba : Option Addr} {bn bc : Nat} {m : List Dig} (hm : SliceAt H encDig 32 ba bn bc m) {k : Int} (hk0 : 0 ≤ k) (hk : k ≤ 255) :
    Fn Try.prog 4 [.slice a n c, .slice ba bn bc, .int .u8 k] E H (fun v H2 => v = .bool true ∧ ∃ X, H2 = X ++ H) := by
  have hln := hs.len
  have hlm := hm.len
  have := hs.cap
  have := hm.cap
  refine Fn.of_body (N := 71) Try.func4 rfl rfl rfl ?_
  refine t_seq ?_
  refine t_region ?_
  refine l_op rfl (o_val rfl rfl (r_assign rfl rfl) ?_)
  refine l_nil ?_
  refine e_next ?_
  refine t_seq ?_
  refine t_seq ?_
  refine t_region ?_
  refine l_op rfl (o_call rfl rfl rfl Try.call11 rfl (awake_c) ?_)
  rintro _ _ ⟨rfl, X1, rfl⟩
  refine l_op rfl (o_val rfl rfl (r_not rfl rfl) ?_)
  refine l_nil ?_
  refine e_next ?_
  refine t_false rfl ?_
  refine t_skip ?_
  refine e_next ?_
  refine t_seq ?_
  refine t_region ?_
  refine l_op rfl (o_val rfl rfl (r_move rfl rfl) ?_)
  refine l_op rfl (o_call rfl rfl rfl Try.call5 rfl (few_c (a := a) (n := n) (c := c) (SliceAt.cap hs)) ?_)
  rintro _ _ ⟨rfl, he⟩
  rw [he]
  clear he
  have := few_len l 200
  refine l_op rfl (o_slice0 rfl rfl rfl Try.underlying22 Try.sizeOf30 ?_)
  intro b2
  refine l_op rfl (o_val rfl rfl (r_move rfl rfl) ?_)
  refine l_op rfl (o_call rfl rfl rfl Try.call5 rfl (few_c (a := ba) (n := bn) (c := bc) (SliceAt.cap hm)) ?_)
  rintro _ _ ⟨rfl, he⟩
  rw [he]
  clear he
  have := few_len m 200
  refine l_op rfl (o_appendS (enc := encDig) (xs := []) (l := (m.take 200)) rfl rfl rfl rfl rfl Try.underlying22 Try.type30 rfl rfl rfl rfl (fun _ => rfl) (fun _ => rfl) Own.empty .here (SliceAt.mono (SliceAt.takeMin 200 hm) (fun p hp => (List.mem_cons_of_mem _ (List.mem_append_right _ hp)))) (by show (_ + _) * 32 ≤ _; (try simp only [List.length_nil, List.length_cons, List.length_append, List.length_map, List.length_take, List.length_replicate, List.length_drop]); omega) (by (try simp only [List.length_nil, List.length_cons, List.length_append, List.length_map, List.length_take, List.length_replicate, List.length_drop]); omega) ?_)
  intro v3 X3 ho3
  rw [List.nil_append] at ho3
  refine l_op rfl (o_val rfl rfl (r_assign rfl rfl) ?_)
  refine l_op rfl (o_val rfl rfl (r_assign rfl rfl) ?_)
  refine l_nil ?_
  refine e_next ?_
  refine t_seq ?_
  refine t_region ?_
  refine l_op rfl (o_val rfl rfl (r_move rfl rfl) ?_)
  refine l_op rfl (o_val rfl rfl (r_convI rfl rfl Try.underlying5 Try.underlying3 (by omega) (by omega)) ?_)
  refine l_op rfl (o_val rfl rfl (r_rem rfl rfl rfl (by omega) (by omega)) ?_)
  refine l_op rfl (o_val rfl rfl (r_add rfl rfl rfl (by omega) (by omega)) ?_)
  refine l_op rfl (o_val rfl rfl (r_assign rfl rfl) ?_)
  refine l_nil ?_
  refine e_next ?_
  refine t_seq ?_
  obtain ⟨nn, hnn⟩ : ∃ nn : Nat, 1 + (k % 64) = ((nn : Nat) : Int) := ⟨Int.toNat (1 + (k % 64)), by omega⟩
  rw [hnn]
  have hn1 : 1 ≤ nn ∧ nn ≤ 64 := by omega
  refine t_region ?_
  refine l_op rfl (o_val rfl rfl (r_move rfl rfl) ?_)
  refine l_op rfl (o_val rfl rfl (r_move rfl rfl) ?_)
  obtain ⟨a5, c5, hv5, hsl5⟩ := Own.at (enc := encDig) (l := (m.take 200)) ho3
  subst hv5
  have hcp5 := SliceAt.cap hsl5
  refine l_op rfl (o_call rfl rfl rfl Try.call8 rfl (missing20_c (l := (l.take 200)) (m := (m.take 200)) (most := 200) (SliceAt.mono (SliceAt.takeMin 200 hs) (fun p hp => (List.mem_append_right _ (List.mem_append_right _ hp)))) (SliceAt.mono hsl5 (fun p hp => (List.mem_append_left _ hp))) (by omega) (by omega)) ?_)
  rintro _ _ ⟨v4, X4, rfl, rfl, ho4⟩
  have := missing_len (l.take 200) (m.take 200) 200
  have := keepOut_le (m := (m.take 200)) (l := risingD (l.take 200))
  have := risingD_length (l.take 200)
  obtain ⟨a6, c6, hv6, hsl6⟩ := Own.at (enc := encDig) (l := (missingD (l.take 200) (m.take 200) 200)) ho4
  subst hv6
  have hcp6 := SliceAt.cap hsl6
  refine l_op rfl (o_val rfl rfl (r_len rfl rfl Try.underlying22) ?_)
  refine l_op rfl (o_val rfl rfl (r_assign rfl rfl) ?_)
  refine l_nil ?_
  refine e_next ?_
  refine t_seq ?_
  refine t_seq ?_
  have hMn := Nat.div_le_self (((missingD (l.take 200) (m.take 200) 200)).length) nn
  refine t_region ?_
  refine l_op rfl (o_val rfl rfl (r_assign rfl rfl) ?_)
  refine l_nil ?_
  refine e_next ?_
  refine t_block ?_
  refine t_loop (fun (mz : Nat) aa ww => ∃ (i : Nat) (hv : List Dig) (vo1 : Value) (Xo1 : Heap), mz = ((missingD (l.take 200) (m.take 200) 200)).length / nn + 1 - i ∧ (i ≤ ((missingD (l.take 200) (m.take 200) 200)).length / nn + 1) ∧ (hv.length ≤ 200 + 64 * i) ∧ ((keepOut hv (risingD (l.take 200))).length ≤ ((missingD (l.take 200) (m.take 200) 200)).length - i * nn) ∧ Own 32 30 vo1 ((hv).map encDig) Xo1 ∧ Sl 71 [(0, .slice a (min n 200) c), (1, vo1), (7, .int .i64 (((nn : Nat) : Int))), (8, .int .i64 (((((missingD (l.take 200) (m.take 200) 200)).length : Nat) : Int))), (9, .int .i64 (((i : Nat) : Int)))] aa ∧ Holds E (X4 ++ (Xo1 ++ (X1 ++ H))) ww) (((missingD (l.take 200) (m.take 200) 200)).length / nn + 1 - 0) ?_ ?_
  · intro aa ww hL hH
    exact ⟨0, (m.take 200), (.slice a5 ((m.take 200)).length c5), X3, rfl, (Nat.zero_le _), by omega, (by omega), (Own.cast (enc := encDig) rfl ho3), hL.sub (.cons (t := 0) rfl (.cons (t := 1) rfl (.cons (t := 7) rfl (.cons (t := 8) rfl (.eq (t := 9) rfl (congrArg (Value.int .i64) (by first | rfl | omega | (simp only [Int.toNat_natCast]; omega))) .nil))))), hH.hs (.seg .here (.seg .here (.seg .here .all)))⟩
  · skip
    rintro mz aa ww ⟨i, hv, vo1, Xo1, hmz, hi, hhv, hK, ho1, hL, hH⟩
    refine Then.run hL hH ?_
    clear hL hH aa ww
    refine t_seq ?_
    refine t_seq ?_
    refine t_region ?_
    refine l_op rfl (o_val rfl rfl (r_move rfl rfl) ?_)
    refine l_op rfl (o_val rfl rfl (r_move rfl rfl) ?_)
    refine l_op rfl (o_val rfl rfl (r_move rfl rfl) ?_)
    refine l_op rfl (o_val rfl rfl (r_quo rfl rfl rfl (by omega) (by omega) (by omega)) ?_)
    refine l_op rfl (o_val rfl rfl (r_add rfl rfl rfl (by omega) (by omega)) ?_)
    refine l_op rfl (o_val rfl rfl (r_lt rfl rfl rfl) ?_)
    refine l_nil ?_
    refine e_next ?_
    refine t_dec rfl (fun c32 => ?_) (fun c32 => ?_)
    · skip
      refine t_skip ?_
      refine e_next ?_
      refine t_seq ?_
      refine t_block ?_
      refine t_seq ?_
      refine t_region ?_
      refine l_op rfl (o_val rfl rfl (r_move rfl rfl) ?_)
      refine l_op rfl (o_val rfl rfl (r_move rfl rfl) ?_)
      refine l_op rfl (o_val rfl rfl (r_move rfl rfl) ?_)
      obtain ⟨a8, c8, hv8, hsl8⟩ := Own.at (enc := encDig) (l := hv) ho1
      subst hv8
      have hcp8 := SliceAt.cap hsl8
      refine l_op rfl (o_call rfl rfl rfl Try.call7 rfl (smissing_c (l := (l.take 200)) (m := hv) (most := ((nn : Nat) : Int)) (SliceAt.mono (SliceAt.takeMin 200 hs) (fun p hp => (List.mem_append_right _ (List.mem_append_right _ (List.mem_append_right _ hp))))) (SliceAt.mono hsl8 (fun p hp => (List.mem_append_right _ (List.mem_append_left _ hp)))) (by omega) (by omega)) ?_)
      rintro _ _ ⟨a7, n7, c7, X7, rfl, rfl, hs7⟩
      have hln7 := hs7.len
      have hcp7 := SliceAt.cap hs7
      have := missing_len (l.take 200) hv ((nn : Nat) : Int)
      have := keepOut_le (m := hv) (l := risingD (l.take 200))
      have := risingD_length (l.take 200)
      refine l_op rfl (o_val rfl rfl (r_assign rfl rfl) ?_)
      refine l_nil ?_
      refine e_next ?_
      refine t_seq ?_
      refine t_seq ?_
      refine t_region ?_
      refine l_op rfl (o_val rfl rfl (r_move rfl rfl) ?_)
      refine l_op rfl (o_val rfl rfl (r_len rfl rfl Try.underlying22) ?_)
      refine l_op rfl (o_val rfl rfl (r_move rfl rfl) ?_)
      refine l_op rfl (o_val rfl rfl (r_gt rfl rfl rfl) ?_)
      refine l_op rfl (o_val rfl rfl (r_move rfl rfl) ?_)
      refine t_bool (decide ((((n7 : Nat) : Int)) > (((nn : Nat) : Int)))) (fun hb9 => ?_) (fun hb9 => ?_)
      · skip
        have phb9 := of_decide_eq_true hb9
        refine l_noh rfl rfl rfl hb9 rfl rfl ?_
        refine l_noh rfl rfl rfl hb9 rfl rfl ?_
        refine l_noh rfl rfl rfl hb9 rfl rfl ?_
        refine l_noh rfl rfl rfl hb9 rfl rfl ?_
        refine l_noU rfl rfl rfl rfl rfl ?_
        refine l_noU rfl rfl rfl rfl rfl ?_
        refine l_noU rfl rfl rfl rfl rfl ?_
        refine l_noU rfl rfl rfl rfl rfl ?_
        refine l_noU rfl rfl rfl rfl rfl ?_
        refine l_noh rfl rfl rfl hb9 rfl rfl ?_
        refine l_op rfl (o_val rfl rfl (r_pickth rfl rfl hb9 rfl) ?_)
        refine l_nil ?_
        refine Then.slots (.cons (t := 0) rfl (.cons (t := 1) rfl (.cons (t := 7) rfl (.cons (t := 8) rfl (.cons (t := 9) rfl (.cons (t := 10) rfl (.cons (t := 54) rfl .nil))))))) ?_
        refine e_next ?_
        refine t_true rfl ?_
        refine t_seq ?_
        refine t_region ?_
        refine l_op rfl (o_val rfl rfl (r_assign rfl rfl) ?_)
        refine l_nil ?_
        refine e_next ?_
        refine t_ret ?_
        refine e_pass_ret ?_
        refine e_block_ret ?_
        refine e_pass_ret ?_
        refine e_pass_ret ?_
        refine e_block_ret ?_
        refine e_pass_ret ?_
        exact e_ret rfl (.tmp rfl .nil) ⟨by exfalso; omega, Pre.ex (.app (.app (.app (.app .refl))))⟩
      · skip
        have phb9 := of_decide_eq_false hb9
        refine l_yesh rfl rfl rfl hb9 (o_val rfl rfl (r_move rfl rfl) ?_)
        refine l_yesh rfl rfl rfl hb9 (o_val rfl rfl (r_len rfl rfl Try.underlying22) ?_)
        refine l_yesh rfl rfl rfl hb9 (o_val rfl rfl (r_eq rfl rfl rfl) ?_)
        refine l_yesh rfl rfl rfl hb9 (o_val rfl rfl (r_move rfl rfl) ?_)
        refine t_bool (decide ((((n7 : Nat) : Int)) = 0)) (fun hb10 => ?_) (fun hb10 => ?_)
        · skip
          have phb10 := of_decide_eq_true hb10
          refine l_yesh rfl rfl rfl hb10 (o_val rfl rfl (r_move rfl rfl) ?_)
          refine l_yesh rfl rfl rfl hb10 (o_val rfl rfl (r_move rfl rfl) ?_)
          refine l_yesh rfl rfl rfl hb10 (o_call rfl rfl rfl Try.call8 rfl (missing20_c (l := (l.take 200)) (m := hv) (most := 1) (SliceAt.mono (SliceAt.takeMin 200 hs) (fun p hp => (List.mem_append_right _ (List.mem_append_right _ (List.mem_append_right _ (List.mem_append_right _ hp)))))) (SliceAt.mono hsl8 (fun p hp => (List.mem_append_right _ (List.mem_append_right _ (List.mem_append_left _ hp))))) (by omega) (by omega)) ?_)
          rintro _ _ ⟨v11, X11, rfl, rfl, ho11⟩
          have := missing_len (l.take 200) hv 1
          have := keepOut_le (m := hv) (l := risingD (l.take 200))
          have := risingD_length (l.take 200)
          obtain ⟨a12, c12, hv12, hsl12⟩ := Own.at (enc := encDig) (l := (missingD (l.take 200) hv 1)) ho11
          subst hv12
          have hcp12 := SliceAt.cap hsl12
          refine l_yesh rfl rfl rfl hb10 (o_val rfl rfl (r_len rfl rfl Try.underlying22) ?_)
          refine l_yesh rfl rfl rfl hb10 (o_val rfl rfl (r_gt rfl rfl rfl) ?_)
          refine l_yesh rfl rfl rfl hb9 (o_val rfl rfl (r_pickth rfl rfl hb10 rfl) ?_)
          refine l_op rfl (o_val rfl rfl (r_pickfh rfl rfl hb9 rfl) ?_)
          refine l_nil ?_
          refine Then.slots (.cons (t := 0) rfl (.cons (t := 1) rfl (.cons (t := 7) rfl (.cons (t := 8) rfl (.cons (t := 9) rfl (.cons (t := 10) rfl (.cons (t := 54) rfl .nil))))))) ?_
          refine e_next ?_
          refine t_dec rfl (fun c54 => ?_) (fun c54 => ?_)
          · skip
            refine t_seq ?_
            refine t_region ?_
            refine l_op rfl (o_val rfl rfl (r_assign rfl rfl) ?_)
            refine l_nil ?_
            refine e_next ?_
            refine t_ret ?_
            refine e_pass_ret ?_
            refine e_block_ret ?_
            refine e_pass_ret ?_
            refine e_pass_ret ?_
            refine e_block_ret ?_
            refine e_pass_ret ?_
            exact e_ret rfl (.tmp rfl .nil) ⟨by exfalso; omega, Pre.ex (.app (.app (.app (.app (.app .refl)))))⟩
          · skip
            refine t_skip ?_
            refine e_next ?_
            refine t_region ?_
            refine l_op rfl (o_val rfl rfl (r_move rfl rfl) ?_)
            refine l_op rfl (o_val rfl rfl (r_move rfl rfl) ?_)
            refine l_op rfl (o_appendS (enc := encDig) (xs := hv) (l := (missingD (l.take 200) hv ((nn : Nat) : Int))) rfl rfl rfl rfl rfl Try.underlying22 Try.type30 rfl rfl rfl rfl (fun _ => rfl) (fun _ => rfl) ho1 (.app (.app (.app .here))) (SliceAt.mono hs7 (fun p hp => (List.mem_append_right _ (List.mem_append_left _ hp)))) (by show (_ + _) * 32 ≤ _; (try simp only [List.length_nil, List.length_cons, List.length_append, List.length_map, List.length_take, List.length_replicate, List.length_drop]); omega) (by (try simp only [List.length_nil, List.length_cons, List.length_append, List.length_map, List.length_take, List.length_replicate, List.length_drop]); omega) ?_)
            intro v13 X13 ho13
            refine l_op rfl (o_val rfl rfl (r_assign rfl rfl) ?_)
            refine l_nil ?_
            refine e_block _ ?_
            refine e_next ?_
            refine t_region ?_
            refine l_op rfl (o_val rfl rfl (r_move rfl rfl) ?_)
            refine l_op rfl (o_val rfl rfl (r_add rfl rfl rfl (by omega) (by omega)) ?_)
            refine l_op rfl (o_val rfl rfl (r_assign rfl rfl) ?_)
            refine l_nil ?_
            intro aa ww hL hH
            exact ⟨_, (by rw [hmz]; exact turn_lt c32), (i + 1), (hv ++ (missingD (l.take 200) hv ((nn : Nat) : Int))), (v13), X13, rfl, (turn_le c32), (by rw [List.length_append]; omega), (turn_step hK turn_keep), (Own.cast (enc := encDig) rfl ho13), hL.sub (.cons (t := 0) rfl (.cons (t := 1) rfl (.cons (t := 7) rfl (.cons (t := 8) rfl (.eq (t := 9) rfl (congrArg (Value.int .i64) (by first | rfl | omega | (simp only [Int.toNat_natCast]; omega))) .nil))))), hH.hs (.seg (.app (.app (.app .here))) (.seg .here (.seg (.app (.app .here)) (.dropS (.dropS .all)))))⟩
        · skip
          have phb10 := of_decide_eq_false hb10
          refine l_noh rfl rfl rfl hb10 rfl rfl ?_
          refine l_noh rfl rfl rfl hb10 rfl rfl ?_
          refine l_noh rfl rfl rfl hb10 rfl rfl ?_
          refine l_noh rfl rfl rfl hb10 rfl rfl ?_
          refine l_noh rfl rfl rfl hb10 rfl rfl ?_
          refine l_yesh rfl rfl rfl hb9 (o_val rfl rfl (r_pickfh rfl rfl hb10 rfl) ?_)
          refine l_op rfl (o_val rfl rfl (r_pickfh rfl rfl hb9 rfl) ?_)
          refine l_nil ?_
          refine Then.slots (.cons (t := 0) rfl (.cons (t := 1) rfl (.cons (t := 7) rfl (.cons (t := 8) rfl (.cons (t := 9) rfl (.cons (t := 10) rfl (.cons (t := 54) rfl .nil))))))) ?_
          refine e_next ?_
          refine t_false rfl ?_
          refine t_skip ?_
          refine e_next ?_
          refine t_region ?_
          refine l_op rfl (o_val rfl rfl (r_move rfl rfl) ?_)
          refine l_op rfl (o_val rfl rfl (r_move rfl rfl) ?_)
          refine l_op rfl (o_appendS (enc := encDig) (xs := hv) (l := (missingD (l.take 200) hv ((nn : Nat) : Int))) rfl rfl rfl rfl rfl Try.underlying22 Try.type30 rfl rfl rfl rfl (fun _ => rfl) (fun _ => rfl) ho1 (.app (.app .here)) (SliceAt.mono hs7 (fun p hp => (List.mem_append_left _ hp))) (by show (_ + _) * 32 ≤ _; (try simp only [List.length_nil, List.length_cons, List.length_append, List.length_map, List.length_take, List.length_replicate, List.length_drop]); omega) (by (try simp only [List.length_nil, List.length_cons, List.length_append, List.length_map, List.length_take, List.length_replicate, List.length_drop]); omega) ?_)
          intro v14 X14 ho14
          refine l_op rfl (o_val rfl rfl (r_assign rfl rfl) ?_)
          refine l_nil ?_
          refine e_block _ ?_
          refine e_next ?_
          refine t_region ?_
          refine l_op rfl (o_val rfl rfl (r_move rfl rfl) ?_)
          refine l_op rfl (o_val rfl rfl (r_add rfl rfl rfl (by omega) (by omega)) ?_)
          refine l_op rfl (o_val rfl rfl (r_assign rfl rfl) ?_)
          refine l_nil ?_
          intro aa ww hL hH
          exact ⟨_, (by rw [hmz]; exact turn_lt c32), (i + 1), (hv ++ (missingD (l.take 200) hv ((nn : Nat) : Int))), (v14), X14, rfl, (turn_le c32), (by rw [List.length_append]; omega), (turn_step hK turn_keep), (Own.cast (enc := encDig) rfl ho14), hL.sub (.cons (t := 0) rfl (.cons (t := 1) rfl (.cons (t := 7) rfl (.cons (t := 8) rfl (.eq (t := 9) rfl (congrArg (Value.int .i64) (by first | rfl | omega | (simp only [Int.toNat_natCast]; omega))) .nil))))), hH.hs (.seg (.app (.app .here)) (.seg .here (.seg (.app .here) (.dropS .all))))⟩
    · skip
      refine t_exit ?_
      refine e_pass_exit ?_
      refine e_pass_exit ?_
      refine e_block_here ?_
      refine e_next ?_
      refine t_seq ?_
      refine t_region ?_
      refine l_op rfl (o_val rfl rfl (r_move rfl rfl) ?_)
      refine l_op rfl (o_val rfl rfl (r_move rfl rfl) ?_)
      refine l_op rfl (o_val rfl rfl (r_move rfl rfl) ?_)
      obtain ⟨a16, c16, hv16, hsl16⟩ := Own.at (enc := encDig) (l := hv) ho1
      subst hv16
      have hcp16 := SliceAt.cap hsl16
      refine l_op rfl (o_call rfl rfl rfl Try.call7 rfl (smissing_c (l := (l.take 200)) (m := hv) (most := ((nn : Nat) : Int)) (SliceAt.mono (SliceAt.takeMin 200 hs) (fun p hp => (List.mem_append_right _ (List.mem_append_right _ (List.mem_append_right _ hp))))) (SliceAt.mono hsl16 (fun p hp => (List.mem_append_right _ (List.mem_append_left _ hp)))) (by omega) (by omega)) ?_)
      rintro _ _ ⟨a15, n15, c15, X15, rfl, rfl, hs15⟩
      have hln15 := hs15.len
      have hcp15 := SliceAt.cap hs15
      have := missing_len (l.take 200) hv ((nn : Nat) : Int)
      have := keepOut_le (m := hv) (l := risingD (l.take 200))
      have := risingD_length (l.take 200)
      refine l_op rfl (o_val rfl rfl (r_len rfl rfl Try.underlying22) ?_)
      refine l_op rfl (o_val rfl rfl (r_eq rfl rfl rfl) ?_)
      refine l_op rfl (o_val rfl rfl (r_move rfl rfl) ?_)
      refine t_bool (decide ((((n15 : Nat) : Int)) = 0)) (fun hb17 => ?_) (fun hb17 => ?_)
      · skip
        have phb17 := of_decide_eq_true hb17
        refine l_yesh rfl rfl rfl hb17 (o_val rfl rfl (r_move rfl rfl) ?_)
        refine l_yesh rfl rfl rfl hb17 (o_val rfl rfl (r_move rfl rfl) ?_)
        refine l_yesh rfl rfl rfl hb17 (o_call rfl rfl rfl Try.call8 rfl (missing20_c (l := (l.take 200)) (m := hv) (most := 1) (SliceAt.mono (SliceAt.takeMin 200 hs) (fun p hp => (List.mem_append_right _ (List.mem_append_right _ (List.mem_append_right _ (List.mem_append_right _ hp)))))) (SliceAt.mono hsl16 (fun p hp => (List.mem_append_right _ (List.mem_append_right _ (List.mem_append_left _ hp))))) (by omega) (by omega)) ?_)
        rintro _ _ ⟨v18, X18, rfl, rfl, ho18⟩
        have := missing_len (l.take 200) hv 1
        have := keepOut_le (m := hv) (l := risingD (l.take 200))
        have := risingD_length (l.take 200)
        obtain ⟨a19, c19, hv19, hsl19⟩ := Own.at (enc := encDig) (l := (missingD (l.take 200) hv 1)) ho18
        subst hv19
        have hcp19 := SliceAt.cap hsl19
        refine l_yesh rfl rfl rfl hb17 (o_val rfl rfl (r_len rfl rfl Try.underlying22) ?_)
        refine l_yesh rfl rfl rfl hb17 (o_val rfl rfl (r_eq rfl rfl rfl) ?_)
        refine l_op rfl (o_val rfl rfl (r_pickth rfl rfl hb17 rfl) ?_)
        refine l_op rfl (o_val rfl rfl (r_assign rfl rfl) ?_)
        refine l_nil ?_
        refine Then.slots (.cons (t := 6) rfl .nil) ?_
        refine e_next ?_
        refine t_ret ?_
        exact e_ret rfl (.tmp rfl .nil) ⟨congrArg Value.bool (decide_eq_true (by have := turn_end hK (by omega) c32; omega)), Pre.ex (.app (.app (.app (.app (.app .refl)))))⟩
      · skip
        have phb17 := of_decide_eq_false hb17
        refine l_noh rfl rfl rfl hb17 rfl rfl ?_
        refine l_noh rfl rfl rfl hb17 rfl rfl ?_
        refine l_noh rfl rfl rfl hb17 rfl rfl ?_
        refine l_noh rfl rfl rfl hb17 rfl rfl ?_
        refine l_noh rfl rfl rfl hb17 rfl rfl ?_
        refine l_op rfl (o_val rfl rfl (r_pickfh rfl rfl hb17 rfl) ?_)
        refine l_op rfl (o_val rfl rfl (r_assign rfl rfl) ?_)
        refine l_nil ?_
        refine Then.slots (.cons (t := 6) rfl .nil) ?_
        refine e_next ?_
        refine t_ret ?_
        exact e_ret rfl (.tmp rfl .nil) ⟨(by exfalso; have := turn_end hK (by omega) c32; omega), Pre.ex (.app (.app (.app (.app .refl))))⟩

end Go.Sal.Sh
