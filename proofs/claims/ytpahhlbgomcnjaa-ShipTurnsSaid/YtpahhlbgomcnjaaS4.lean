/- The walks: printed by a program of this repo (wip/gen). -/
import Derived.Test.YtpahhlbgomcnjaaS3
set_option linter.unusedVariables false
set_option linter.unusedSimpArgs false
namespace Go.Sal.Sh
open Go Go.Sal Go.Proofs
theorem delete_c {E : Env} {H : Heap} {v : Value} {l : List Dig} {X : Heap} (ho : Own 32 30 v (l.map encDig) X) {bv bt : Nat} {es : Array MapEntry} {cc : Nat} {m : List Dig} (h1 : (bv, Obj.cells #[.map (some bt)] 31 (0, 0)) ∈ H) (h2 : (bt, Obj.map es cc) ∈ H) (him : IsSet es cc kDig (.bool true) m) (hl : l.length ≤ 1073741824) : Fn Try.prog 12 [v, .func (.func 13) #[] #[.pointer (some ⟨bv, 0, none⟩)]] E (X ++ H) (fun v2 H2 => ∃ X', H2 = X' ++ H ∧ Own 32 30 v2 ((keepOut m l).map encDig) X') :=
  fn_ownRow ho (fun h => by subst h; exact deleteN h1 h2 him) (fun b cap jk hc => deleteB hc hl h1 h2 him)

set_option maxHeartbeats 2000000 in
set_option maxRecDepth 100000 in
theorem srising_c {E : Env} {H : Heap} {a : Option Addr} {n c : Nat} {l : List Dig} (hs : SliceAt H encDig 32 a n c l) (hl : n ≤ 1048576) :
    Fn Try.prog 9 [.slice a n c] E H (fun v H2 => ∃ v2 X, v = v2 ∧ H2 = X ++ H ∧ Own 32 30 v2 ((risingD l).map encDig) X) := by
  have hln := hs.len
  refine Fn.of_body (N := 10) Try.func9 rfl rfl rfl ?_
  refine t_seq ?_
  refine t_region ?_
  refine l_op rfl (o_val rfl rfl (r_assign rfl rfl) ?_)
  refine l_nil ?_
  refine e_next ?_
  refine t_seq ?_
  refine t_region ?_
  refine l_op rfl (o_val rfl rfl (r_move rfl rfl) ?_)
  refine l_op rfl (o_call rfl rfl rfl Try.call15 rfl (dclone_c (l := l) (SliceAt.mono hs (fun p hp => hp)) (by omega)) ?_)
  rintro _ _ ⟨v1, X1, rfl, rfl, ho1⟩
  refine l_op rfl (o_val rfl rfl (r_assign rfl rfl) ?_)
  refine l_nil ?_
  refine e_next ?_
  refine t_seq ?_
  refine t_region ?_
  refine l_op rfl (o_val rfl rfl (r_move rfl rfl) ?_)
  refine Then.mem (.seg .here .all) ?_
  refine l_op rfl (o_call rfl rfl rfl Try.call16 rfl (sortDigs_c ho1 (by omega)) ?_)
  rintro _ _ ⟨rfl, l2, X2, hp2, hso2, ho2, rfl⟩
  obtain rfl := perm_sortD hp2 hso2
  have := sortD_length (l)
  refine l_nil ?_
  refine e_next ?_
  refine t_seq ?_
  refine t_region ?_
  refine l_op rfl (o_val rfl rfl (r_move rfl rfl) ?_)
  refine Then.mem (.seg .here .all) ?_
  refine l_op rfl (o_call rfl rfl rfl Try.call18 rfl (compact_c ho2 (by omega)) ?_)
  rintro v3 _ ⟨X3, rfl, ho3⟩
  have := dedup_le ((sortD l))
  refine l_op rfl (o_val rfl rfl (r_assign rfl rfl) ?_)
  refine l_nil ?_
  refine e_next ?_
  refine t_ret ?_
  refine Then.mem (.seg .here .all) ?_
  exact e_ret rfl (.tmp rfl .nil) ⟨v3, X3, rfl, rfl, (Own.cast rfl ho3)⟩

set_option maxHeartbeats 2000000 in
set_option maxRecDepth 100000 in
theorem smissing_c {E : Env} {H : Heap} {a : Option Addr} {n c : Nat} {l : List Dig} (hs : SliceAt H encDig 32 a n c l) {ba : Option Addr} {bn bc : Nat} {m : List Dig} (hm : SliceAt H encDig 32 ba bn bc m) {most : Int} (hl : n ≤ 1048576) (hbl : bn ≤ 1073741824) :
    Fn Try.prog 7 [.slice a n c, .slice ba bn bc, .int .i64 most] E H (fun v H2 => ∃ (a2 : Option Addr) (n2 c2 : Nat) (X : Heap), v = .slice a2 n2 c2 ∧ H2 = X ++ H ∧ SliceAt X encDig 32 a2 n2 c2 (missingD l m most)) := by
  have hln := hs.len
  have hlm := hm.len
  refine Fn.of_body (N := 32) Try.func7 rfl rfl rfl ?_
  refine t_seq ?_
  refine t_region ?_
  refine l_op rfl (o_val rfl rfl (r_assign rfl rfl) ?_)
  refine l_nil ?_
  refine e_next ?_
  refine t_seq ?_
  refine t_region ?_
  refine l_op rfl (o_makeMap rfl rfl rfl ?_)
  intro b1
  refine l_op rfl (o_alloc rfl rfl rfl Try.zeroValue31 rfl ?_)
  intro b2
  refine l_op rfl (o_store rfl rfl rfl rfl rfl Try.sizeOf31 .head rfl ?_)
  refine l_nil ?_
  refine e_next ?_
  refine t_seq ?_
  refine t_seq ?_
  refine t_region ?_
  refine l_op rfl (o_val rfl rfl (r_move rfl rfl) ?_)
  refine l_op rfl (o_val rfl rfl (r_len rfl rfl Try.underlying22) ?_)
  refine l_op rfl (o_val rfl rfl (r_move rfl rfl) ?_)
  refine l_nil ?_
  refine e_next ?_
  refine t_block ?_
  refine t_loop (fun (mz : Nat) aa ww => ∃ (i : Nat) (es : Array MapEntry) (cc : Nat), mz = bn - i ∧ (i ≤ bn) ∧ (IsSet es cc kDig (.bool true) (keysOf m i)) ∧ Sl 32 [(0, .slice a n c), (2, .int .i64 (most)), (6, .slice none 0 0), (7, .pointer (some ⟨b2, 0, none⟩)), (12, .slice ba bn bc), (13, .int .i64 (((bn : Nat) : Int))), (14, .int .i64 (((i : Nat) : Int)))] aa ∧ Holds E ((b2, .cells ([.map (some b1)]).toArray 31 (0, 0)) :: ((b1, .map es cc) :: H)) ww) (bn) ?_ ?_
  · intro aa ww hL hH
    exact ⟨0, #[], 0, rfl, by omega, (IsSet.empty kDig (.bool true)), hL.sub (.cons (t := 0) rfl (.cons (t := 2) rfl (.cons (t := 6) rfl (.cons (t := 7) rfl (.cons (t := 12) rfl (.cons (t := 13) rfl (.eq (t := 14) rfl (congrArg (Value.int .i64) (by first | rfl | omega | (simp only [Int.toNat_natCast]; omega))) .nil))))))), hH.hs (.cell .head (.cell .head .all))⟩
  · skip
    rintro mz aa ww ⟨i, es, cc, hmz, hi, him, hL, hH⟩
    refine Then.run hL hH ?_
    clear hL hH aa ww
    refine t_seq ?_
    refine t_region ?_
    refine l_op rfl (o_val rfl rfl (r_lt rfl rfl rfl) ?_)
    refine l_nil ?_
    refine e_next ?_
    refine t_seq ?_
    refine t_dec rfl (fun c15 => ?_) (fun c15 => ?_)
    · skip
      refine t_skip ?_
      refine e_next ?_
      refine t_seq ?_
      refine t_block ?_
      refine t_seq ?_
      refine t_region ?_
      obtain ⟨b3, o3, cs3, T3, fz3, ha3, hm3, hr3⟩ := SliceAt.opn hm (by omega)
      refine l_op rfl (o_val rfl rfl (r_indexAddr rfl rfl ha3 rfl Try.underlying22 Try.sizeOf30 (by omega) (by omega)) ?_)
      refine l_op rfl (o_val rfl rfl (r_loadAgg rfl Try.isAgg30 Try.sizeOf30 rfl ((fun p hp => (List.mem_cons_of_mem _ (List.mem_cons_of_mem _ hp))) _ hm3) (Row.elem hr3 (getBangI (l := m) (j := (((i : Nat) : Int))) (i := i) (by first | rfl | omega) (by have hh_ := SliceAt.len hm; omega))) rfl) ?_)
      refine l_op rfl (o_alloc (zs := encDig Dig.zero) rfl rfl rfl Try.zeroValue30 (by kernel_rfl) ?_)
      intro b4
      refine l_op rfl (o_storeAgg (ys := encDig (m[i]!)) rfl rfl rfl rfl rfl Try.sizeOf30 .head rfl ?_)
      refine l_nil ?_
      refine e_next ?_
      refine t_region ?_
      refine l_op rfl (o_val rfl rfl (r_load (v := .map (some b1)) rfl Try.isAgg31 rfl (List.mem_cons_of_mem _ List.mem_cons_self) rfl) ?_)
      refine l_op rfl (o_val rfl rfl (r_loadAgg rfl Try.isAgg30 Try.sizeOf30 rfl List.mem_cons_self (At.self _) rfl) ?_)
      refine l_op rfl (o_setAdd (kenc := kDig) (a0 := (m[i]!)) rfl rfl rfl rfl rfl Try.underlying31 (by rw [Try.underlying30]) eqDig (fun w => ckDig _ w false) (bitsDig _) (.tail (.tail .head)) him ?_)
      intro es5 c5 him5
      refine l_nil ?_
      refine e_block _ ?_
      refine e_next ?_
      refine t_region ?_
      refine l_op rfl (o_val rfl rfl (r_add rfl rfl rfl (by omega) (by omega)) ?_)
      refine l_op rfl (o_val rfl rfl (r_move rfl rfl) ?_)
      refine l_nil ?_
      intro aa ww hL hH
      exact ⟨_, by omega, (i + 1), es5, c5, rfl, by omega, him5, hL.sub (.cons (t := 0) rfl (.cons (t := 2) rfl (.cons (t := 6) rfl (.cons (t := 7) rfl (.cons (t := 12) rfl (.cons (t := 13) rfl (.eq (t := 14) rfl (congrArg (Value.int .i64) (by first | rfl | omega | (simp only [Int.toNat_natCast]; omega))) .nil))))))), hH.hs (.cell (.tail (.tail .head)) (.cell .head (.drop .all)))⟩
    · skip
      refine t_exit ?_
      refine e_pass_exit ?_
      refine e_pass_exit ?_
      refine e_block_here ?_
      refine e_next ?_
      refine t_seq ?_
      refine t_region ?_
      refine l_op rfl (o_val rfl rfl (r_move rfl rfl) ?_)
      refine l_op rfl (o_call rfl rfl rfl Try.call9 rfl (srising_c (l := l) (SliceAt.mono hs (fun p hp => (List.mem_cons_of_mem _ (List.mem_cons_of_mem _ hp)))) (by omega)) ?_)
      rintro _ _ ⟨v6, X6, rfl, rfl, ho6⟩
      have := risingD_length (l)
      refine l_op rfl (o_val rfl rfl (r_makeFunc rfl rfl rfl) ?_)
      refine Then.mem (.seg .here .all) ?_
      refine l_op rfl (o_call rfl rfl rfl Try.call12 rfl (delete_c ho6 List.mem_cons_self (List.mem_cons_of_mem _ List.mem_cons_self) him (by omega)) ?_)
      rintro v7 _ ⟨X7, rfl, ho7⟩
      have := keepOut_le (m := (keysOf m i)) (l := (risingD l))
      refine l_op rfl (o_val rfl rfl (r_assign rfl rfl) ?_)
      refine l_nil ?_
      refine e_next ?_
      refine t_seq ?_
      have hkk : keepOut (keysOf m i) (risingD l) = keepOut m (risingD l) := by rw [show i = m.length by omega]; exact keepOut_keys
      obtain ⟨a8, c8, hv8, hsl8⟩ := Own.at (enc := encDig) (l := (keepOut (keysOf m i) (risingD l))) ho7
      subst hv8
      have hcp8 := SliceAt.cap hsl8
      refine t_region ?_
      refine l_op rfl (o_val rfl rfl (r_move rfl rfl) ?_)
      refine l_op rfl (o_val rfl rfl (r_move rfl rfl) ?_)
      refine l_op rfl (o_val rfl rfl (r_move rfl rfl) ?_)
      refine l_op rfl (o_val rfl rfl (r_len rfl rfl Try.underlying22) ?_)
      refine l_op rfl (o_val rfl rfl (r_min rfl rfl rfl) ?_)
      refine l_op rfl (o_val rfl rfl (r_max rfl rfl rfl) ?_)
      refine l_op rfl (o_val rfl rfl (r_sliceTo rfl rfl rfl Try.underlying22 Try.sizeOf30 (by omega) (by omega)) ?_)
      refine l_op rfl (o_val rfl rfl (r_assign rfl rfl) ?_)
      refine l_nil ?_
      refine e_next ?_
      refine t_ret ?_
      refine Then.mem (.seg .here (.drop (.drop .all))) ?_
      exact e_ret rfl (.tmp rfl .nil) ⟨_, _, _, X7, rfl, rfl, SliceAt.cast (by rw [hkk]; exact missing_take (by omega)) (SliceAt.take (k := (Int.toNat (max (0) (min (most) (((((keepOut (keysOf m i) (risingD l))).length : Nat) : Int)))))) (c' := c8) hsl8 (by omega) (by omega))⟩

end Go.Sal.Sh
