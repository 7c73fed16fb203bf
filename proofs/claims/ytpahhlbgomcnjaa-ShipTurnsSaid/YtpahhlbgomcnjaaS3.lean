/- The walks: printed by a program of this repo (wip/gen). -/
import Derived.Test.YtpahhlbgomcnjaaS2
set_option linter.unusedVariables false
set_option linter.unusedSimpArgs false
namespace Go.Sal.Sh
open Go Go.Sal Go.Proofs
set_option maxHeartbeats 2000000 in
set_option maxRecDepth 100000 in
theorem compactN {E : Env} {H : Heap} :
    Fn Try.prog 18 [.slice none 0 0] E H (fun v2 H2 => ∃ X', H2 = X' ++ H ∧ Own 32 30 v2 (([] : List Dig).map encDig) X') := by
  refine Fn.of_body (N := 61) Try.func18 rfl rfl rfl ?_
  refine t_seq ?_
  refine t_region ?_
  refine l_op rfl (o_val rfl rfl (r_assign rfl rfl) ?_)
  refine l_nil ?_
  refine e_next ?_
  refine t_seq ?_
  refine t_seq ?_
  refine t_region ?_
  refine l_op rfl (o_val rfl rfl (r_move rfl rfl) ?_)
  refine l_op rfl (o_val rfl rfl (r_len rfl rfl Try.underlying22) ?_)
  refine l_op rfl (o_val rfl rfl (Run.eq (v' := .bool true) (r_lt rfl rfl rfl) (by rfl)) ?_)
  refine l_nil ?_
  refine e_next ?_
  refine t_true rfl ?_
  refine t_seq ?_
  refine t_region ?_
  refine l_op rfl (o_val rfl rfl (r_move rfl rfl) ?_)
  refine l_op rfl (o_val rfl rfl (r_assign rfl rfl) ?_)
  refine l_nil ?_
  refine e_next ?_
  refine t_ret ?_
  refine e_pass_ret ?_
  refine Then.mem .all ?_
  exact e_ret rfl (.tmp rfl .nil) ⟨[], rfl, Own.nil _ _⟩

theorem compact_c {E : Env} {H : Heap} {v : Value} {l : List Dig} {X : Heap} (ho : Own 32 30 v (l.map encDig) X) (hl : l.length ≤ 1073741824) : Fn Try.prog 18 [v] E (X ++ H) (fun v2 H2 => ∃ X', H2 = X' ++ H ∧ Own 32 30 v2 ((dedup l).map encDig) X') :=
  fn_ownRow ho (fun h => by subst h; exact compactN) (fun b cap jk hc => compactB hc hl)

set_option maxRecDepth 100000 in
theorem isin_c {E : Env} {H : Heap} {bv bt : Nat} {es : Array MapEntry} {cc : Nat} {m : List Dig} (h1 : (bv, Obj.cells #[.map (some bt)] 31 (0, 0)) ∈ H) (h2 : (bt, Obj.map es cc) ∈ H) (him : IsSet es cc kDig (.bool true) m) {d : Dig} : Fn Try.prog 13 [.agg (encDig d).toArray, .pointer (some ⟨bv, 0, none⟩)] E H (fun v H2 => v = .bool (decide (d ∈ m)) ∧ ∃ X, H2 = X ++ H) := by
  refine Fn.of_body (N := 7) Try.func13 rfl rfl rfl ?_
  refine t_seq ?_
  refine t_region ?_
  refine l_op rfl (o_box rfl rfl rfl rfl rfl ?_)
  intro b1
  refine l_op rfl (o_val rfl rfl (r_assign rfl rfl) ?_)
  refine l_nil ?_
  refine e_next ?_
  refine t_seq ?_
  refine t_region ?_
  refine l_op rfl (o_val rfl rfl (r_load (v := .map (some bt)) rfl Try.isAgg31 rfl (List.mem_cons_of_mem _ h1) rfl) ?_)
  refine l_op rfl (o_val rfl rfl (r_loadAgg (xs := encDig d) rfl Try.isAgg30 Try.sizeOf30 rfl List.mem_cons_self (At.self _) rfl) ?_)
  refine l_op rfl (o_val rfl rfl (r_lookupSet (kenc := kDig) (a0 := d) rfl rfl rfl Try.underlying31 (by rw [Try.underlying30]) Try.zeroValue4 eqDig (fun w e => ckDig d w e) (List.mem_cons_of_mem _ h2) him) ?_)
  refine l_op rfl (o_val rfl rfl (r_assign rfl rfl) ?_)
  refine l_nil ?_
  refine e_next ?_
  refine t_ret ?_
  exact e_ret rfl (.tmp rfl .nil) ⟨rfl, [(b1, _)], rfl⟩

set_option maxHeartbeats 2000000 in
set_option maxRecDepth 100000 in
theorem idx_c {E : Env} {H : Heap} {a : Option Addr} {n c : Nat} {l : List Dig} (hs : SliceAt H encDig 32 a n c l) {bv bt : Nat} {es : Array MapEntry} {cc : Nat} {m : List Dig} (h1 : (bv, Obj.cells #[.map (some bt)] 31 (0, 0)) ∈ H) (h2 : (bt, Obj.map es cc) ∈ H) (him : IsSet es cc kDig (.bool true) m) (hl : n ≤ 1073741824) :
    Fn Try.prog 22 [.slice a n c, .func (.func 13) #[] #[.pointer (some ⟨bv, 0, none⟩)]] E H (fun v H2 => (∃ r, v = .int .i64 r ∧ idxP l m r) ∧ ∃ X, H2 = X ++ H) := by
  have hln := hs.len
  refine Fn.of_body (N := 19) Try.func22 rfl rfl rfl ?_
  refine t_seq ?_
  refine t_region ?_
  refine l_op rfl (o_val rfl rfl (r_assign rfl rfl) ?_)
  refine l_nil ?_
  refine e_next ?_
  refine t_seq ?_
  refine t_seq ?_
  refine t_region ?_
  refine l_op rfl (o_val rfl rfl (r_move rfl rfl) ?_)
  refine l_op rfl (o_val rfl rfl (r_len rfl rfl Try.underlying22) ?_)
  refine l_op rfl (o_val rfl rfl (r_move rfl rfl) ?_)
  refine l_nil ?_
  refine e_next ?_
  refine t_block ?_
  refine t_loop (fun (mz : Nat) aa ww => ∃ (i : Nat), mz = n - i ∧ (i ≤ n) ∧ (keepOut m (l.take i) = l.take i) ∧ Sl 19 [(0, .slice a n c), (1, .func (.func 13) #[] #[.pointer (some ⟨bv, 0, none⟩)]), (7, .int .i64 (((n : Nat) : Int))), (8, .int .i64 (((i : Nat) : Int)))] aa ∧ Holds E H ww) (n) ?_ ?_
  · intro aa ww hL hH
    exact ⟨0, rfl, by omega, rfl, hL.sub (.cons (t := 0) rfl (.cons (t := 1) rfl (.cons (t := 7) rfl (.eq (t := 8) rfl (congrArg (Value.int .i64) (by first | rfl | omega | (simp only [Int.toNat_natCast]; omega))) .nil)))), hH.hs .all⟩
  · skip
    rintro mz aa ww ⟨i, hmz, hi, hn, hL, hH⟩
    refine Then.run hL hH ?_
    clear hL hH aa ww
    refine t_seq ?_
    refine t_region ?_
    refine l_op rfl (o_val rfl rfl (r_lt rfl rfl rfl) ?_)
    refine l_nil ?_
    refine e_next ?_
    refine t_seq ?_
    refine t_dec rfl (fun c9 => ?_) (fun c9 => ?_)
    · skip
      refine t_skip ?_
      refine e_next ?_
      refine t_seq ?_
      refine t_block ?_
      refine t_seq ?_
      refine t_region ?_
      refine l_op rfl (o_val rfl rfl (r_move rfl rfl) ?_)
      refine l_op rfl (o_val rfl rfl (r_assign rfl rfl) ?_)
      refine l_nil ?_
      refine e_next ?_
      refine t_seq ?_
      refine t_region ?_
      refine l_op rfl (o_val rfl rfl (r_move rfl rfl) ?_)
      refine l_op rfl (o_val rfl rfl (r_move rfl rfl) ?_)
      refine l_op rfl (o_val rfl rfl (r_move rfl rfl) ?_)
      obtain ⟨b1, o1, cs1, T1, fz1, ha1, hm1, hr1⟩ := SliceAt.opn hs (by omega)
      refine l_op rfl (o_val rfl rfl (r_indexAddr rfl rfl ha1 rfl Try.underlying22 Try.sizeOf30 (by omega) (by omega)) ?_)
      refine l_op rfl (o_val rfl rfl (r_loadAgg rfl Try.isAgg30 Try.sizeOf30 rfl ((fun p hp => hp) _ hm1) (Row.elem hr1 (getBangI (l := l) (j := (((i : Nat) : Int))) (i := i) (by first | rfl | omega) (by have hh_ := SliceAt.len hs; omega))) rfl) ?_)
      refine l_op rfl (o_callv rfl rfl rfl rfl Try.call13 rfl (isin_c (d := (l[i]!)) h1 h2 him) ?_)
      rintro _ _ ⟨rfl, X2, rfl⟩
      refine l_nil ?_
      refine e_next ?_
      refine t_dec rfl (fun c16 => ?_) (fun c16 => ?_)
      · skip
        refine t_seq ?_
        refine t_region ?_
        refine l_op rfl (o_val rfl rfl (r_move rfl rfl) ?_)
        refine l_op rfl (o_val rfl rfl (r_assign rfl rfl) ?_)
        refine l_nil ?_
        refine e_next ?_
        refine t_ret ?_
        refine e_block_ret ?_
        refine e_pass_ret ?_
        refine e_pass_ret ?_
        refine e_block_ret ?_
        refine e_pass_ret ?_
        exact e_ret rfl (.tmp rfl .nil) ⟨⟨_, rfl, .inr ⟨i, rfl, by omega, c16, hn⟩⟩, Pre.ex (.app .refl)⟩
      · skip
        refine t_skip ?_
        refine e_block _ ?_
        refine e_next ?_
        refine t_region ?_
        refine l_op rfl (o_val rfl rfl (r_add rfl rfl rfl (by omega) (by omega)) ?_)
        refine l_op rfl (o_val rfl rfl (r_move rfl rfl) ?_)
        refine l_nil ?_
        intro aa ww hL hH
        exact ⟨_, by omega, (i + 1), rfl, by omega, (idx_next hn (by omega) c16), hL.sub (.cons (t := 0) rfl (.cons (t := 1) rfl (.cons (t := 7) rfl (.eq (t := 8) rfl (congrArg (Value.int .i64) (by first | rfl | omega | (simp only [Int.toNat_natCast]; omega))) .nil)))), hH.hs (.dropS .all)⟩
    · skip
      refine t_exit ?_
      refine e_pass_exit ?_
      refine e_pass_exit ?_
      refine e_block_here ?_
      refine e_next ?_
      refine t_seq ?_
      refine t_region ?_
      refine l_op rfl (o_val rfl rfl (r_assign rfl rfl) ?_)
      refine l_nil ?_
      refine e_next ?_
      refine t_ret ?_
      exact e_ret rfl (.tmp rfl .nil) ⟨⟨_, rfl, .inl ⟨rfl, by rw [List.take_of_length_le (by omega)] at hn; exact hn⟩⟩, Pre.ex .refl⟩

set_option maxHeartbeats 2000000 in
set_option maxRecDepth 100000 in
theorem deleteN {E : Env} {H : Heap} {bv bt : Nat} {es : Array MapEntry} {cc : Nat} {m : List Dig} (h1 : (bv, Obj.cells #[.map (some bt)] 31 (0, 0)) ∈ H) (h2 : (bt, Obj.map es cc) ∈ H) (him : IsSet es cc kDig (.bool true) m) :
    Fn Try.prog 12 [.slice none 0 0, .func (.func 13) #[] #[.pointer (some ⟨bv, 0, none⟩)]] E H (fun v2 H2 => ∃ X', H2 = X' ++ H ∧ Own 32 30 v2 ((keepOut m []).map encDig) X') := by
  refine Fn.of_body (N := 42) Try.func12 rfl rfl rfl ?_
  refine t_seq ?_
  refine t_region ?_
  refine l_op rfl (o_val rfl rfl (r_assign rfl rfl) ?_)
  refine l_nil ?_
  refine e_next ?_
  refine t_seq ?_
  refine t_region ?_
  refine l_op rfl (o_val rfl rfl (r_move rfl rfl) ?_)
  refine l_op rfl (o_val rfl rfl (r_move rfl rfl) ?_)
  refine l_op rfl (o_call rfl rfl rfl Try.call22 rfl (idx_c (l := []) (m := m) SliceAt.nil h1 h2 him (by omega)) ?_)
  rintro _ _ ⟨⟨r, rfl, hidx⟩, X1, rfl⟩
  have hr : r = -1 := by rcases hidx with h | ⟨i, _, h, _⟩; exact h.1; exact absurd h (by simp)
  subst hr
  refine l_op rfl (o_val rfl rfl (r_assign rfl rfl) ?_)
  refine l_nil ?_
  refine e_next ?_
  refine t_seq ?_
  refine t_seq ?_
  refine t_region ?_
  refine l_op rfl (o_val rfl rfl (r_move rfl rfl) ?_)
  refine l_op rfl (o_val rfl rfl (r_eq rfl rfl rfl) ?_)
  refine l_nil ?_
  refine e_next ?_
  refine t_dect rfl (by omega) ?_
  refine t_seq ?_
  refine t_region ?_
  refine l_op rfl (o_val rfl rfl (r_move rfl rfl) ?_)
  refine l_op rfl (o_val rfl rfl (r_assign rfl rfl) ?_)
  refine l_nil ?_
  refine e_next ?_
  refine t_ret ?_
  refine e_pass_ret ?_
  refine Then.mem (.dropS .all) ?_
  exact e_ret rfl (.tmp rfl .nil) ⟨[], rfl, Own.nil _ _⟩

set_option maxHeartbeats 2000000 in
set_option maxRecDepth 100000 in
theorem deleteB {E : Env} {H : Heap} {b cap : Nat} {l : List Dig} {jk : List Value} (hcl : l.length ≤ cap) (hl : l.length ≤ 1073741824) {bv bt : Nat} {es : Array MapEntry} {cc : Nat} {m : List Dig} (h1 : (bv, Obj.cells #[.map (some bt)] 31 (0, 0)) ∈ H) (h2 : (bt, Obj.map es cc) ∈ H) (him : IsSet es cc kDig (.bool true) m) :
    Fn Try.prog 12 [.slice (some ⟨b, 0, none⟩) l.length cap, .func (.func 13) #[] #[.pointer (some ⟨bv, 0, none⟩)]] E ((b, .cells (rows encDig l jk).toArray 30 (0, 0)) :: H) (fun v H2 => ∃ (k : Nat) (l2 : List Dig) (X : Heap), v = .slice (some ⟨b, 0, none⟩) k cap ∧ H2 = X ++ ((b, .cells (rows encDig l2 jk).toArray 30 (0, 0)) :: H) ∧ l2.length = l.length ∧ k ≤ l.length ∧ l2.take k = keepOut m l) := by
  refine Fn.of_body (N := 42) Try.func12 rfl rfl rfl ?_
  refine t_seq ?_
  refine t_region ?_
  refine l_op rfl (o_val rfl rfl (r_assign rfl rfl) ?_)
  refine l_nil ?_
  refine e_next ?_
  refine t_seq ?_
  refine t_region ?_
  refine l_op rfl (o_val rfl rfl (r_move rfl rfl) ?_)
  refine l_op rfl (o_val rfl rfl (r_move rfl rfl) ?_)
  refine l_op rfl (o_call rfl rfl rfl Try.call22 rfl (idx_c (l := l) (m := m) (rows_slice List.mem_cons_self rfl (by omega)) (List.mem_cons_of_mem _ h1) (List.mem_cons_of_mem _ h2) him (by omega)) ?_)
  rintro _ _ ⟨⟨r, rfl, hidx⟩, X1, rfl⟩
  refine l_op rfl (o_val rfl rfl (r_assign rfl rfl) ?_)
  refine l_nil ?_
  refine e_next ?_
  refine t_seq ?_
  refine t_seq ?_
  refine t_region ?_
  refine l_op rfl (o_val rfl rfl (r_move rfl rfl) ?_)
  refine l_op rfl (o_val rfl rfl (r_eq rfl rfl rfl) ?_)
  refine l_nil ?_
  refine e_next ?_
  refine t_dec rfl (fun c12 => ?_) (fun c12 => ?_)
  · skip
    refine t_seq ?_
    refine t_region ?_
    refine l_op rfl (o_val rfl rfl (r_move rfl rfl) ?_)
    refine l_op rfl (o_val rfl rfl (r_assign rfl rfl) ?_)
    refine l_nil ?_
    refine e_next ?_
    refine t_ret ?_
    refine e_pass_ret ?_
    refine Then.mem (.cell (.app .head) (.dropS .all)) ?_
    exact e_ret rfl (.tmp rfl .nil) ⟨l.length, l, [], rfl, rfl, rfl, Nat.le_refl _, (by rw [List.take_length]; rcases hidx with h | ⟨i, h, _⟩; exact h.2.symm; omega)⟩
  · skip
    obtain ⟨i, rfl, hi1, him1, hk1⟩ := hidx.resolve_left (fun h => c12 h.1)
    refine t_skip ?_
    refine e_next ?_
    refine t_seq ?_
    refine t_seq ?_
    refine t_region ?_
    refine l_op rfl (o_val rfl rfl (r_move rfl rfl) ?_)
    refine l_op rfl (o_val rfl rfl (r_add rfl rfl rfl (by omega) (by omega)) ?_)
    refine l_op rfl (o_val rfl rfl (r_assign rfl rfl) ?_)
    refine l_nil ?_
    refine e_next ?_
    refine t_block ?_
    refine t_loop (fun (mz : Nat) aa ww => ∃ (j : Nat) (k1 : Nat) (cur : List Dig), mz = l.length - j ∧ (cur.length = l.length) ∧ (k1 ≤ j ∧ j ≤ l.length) ∧ (cur.take k1 = keepOut m (l.take j)) ∧ (cur.drop j = l.drop j) ∧ Sl 42 [(0, .slice (some ⟨b, 0, none⟩) (l).length cap), (1, .func (.func 13) #[] #[.pointer (some ⟨bv, 0, none⟩)]), (4, .slice none 0 0), (5, .int .i64 (((k1 : Nat) : Int))), (6, .int .i64 (((j : Nat) : Int)))] aa ∧ Holds E (X1 ++ ((b, .cells (rows encDig cur jk).toArray 30 (0, 0)) :: H)) ww) (l.length - (i + 1)) ?_ ?_
    · intro aa ww hL hH
      exact ⟨(i + 1), i, l, rfl, rfl, by omega, (dl_start hk1 hi1 him1), rfl, hL.sub (.cons (t := 0) rfl (.cons (t := 1) rfl (.cons (t := 4) rfl (.eq (t := 5) rfl (congrArg (Value.int .i64) (by first | rfl | omega | (simp only [Int.toNat_natCast]; omega))) (.eq (t := 6) rfl (congrArg (Value.int .i64) (by first | rfl | omega | (simp only [Int.toNat_natCast]; omega))) .nil))))), hH.hs (.seg .here (.cell .head .all))⟩
    · skip
      rintro mz aa ww ⟨j, k1, cur, hmz, hcur, hj, htk, hdr, hL, hH⟩
      refine Then.run hL hH ?_
      clear hL hH aa ww
      refine t_seq ?_
      refine t_seq ?_
      refine t_region ?_
      refine l_op rfl (o_val rfl rfl (r_move rfl rfl) ?_)
      refine l_op rfl (o_val rfl rfl (r_move rfl rfl) ?_)
      refine l_op rfl (o_val rfl rfl (r_len rfl rfl Try.underlying22) ?_)
      refine l_op rfl (o_val rfl rfl (r_lt rfl rfl rfl) ?_)
      refine l_nil ?_
      refine e_next ?_
      refine t_dec rfl (fun c19 => ?_) (fun c19 => ?_)
      · skip
        refine t_skip ?_
        refine e_next ?_
        refine t_seq ?_
        refine t_block ?_
        refine t_seq ?_
        refine t_region ?_
        refine l_op rfl (o_val rfl rfl (r_move rfl rfl) ?_)
        refine l_op rfl (o_val rfl rfl (r_move rfl rfl) ?_)
        refine l_op rfl (o_val rfl rfl (r_indexAddr rfl rfl rfl rfl Try.underlying22 Try.sizeOf30 (by omega) (by omega)) ?_)
        refine l_op rfl (o_val rfl rfl (r_loadAgg (xs := encDig (cur[j]!)) rfl Try.isAgg30 Try.sizeOf30 rfl (List.mem_append_right _ List.mem_cons_self) (rows_at (sz := 32) (fun _ => rfl) (by omega) (by have hh_ := hcur; omega)) rfl) ?_)
        refine l_op rfl (o_alloc (zs := encDig Dig.zero) rfl rfl rfl Try.zeroValue30 (by kernel_rfl) ?_)
        intro b2
        refine l_op rfl (o_storeAgg (ys := encDig (cur[j]!)) rfl rfl rfl rfl rfl Try.sizeOf30 .head rfl ?_)
        refine l_nil ?_
        refine e_next ?_
        refine t_seq ?_
        refine t_region ?_
        refine l_op rfl (o_val rfl rfl (r_move rfl rfl) ?_)
        refine l_op rfl (o_val rfl rfl (r_loadAgg rfl Try.isAgg30 Try.sizeOf30 rfl List.mem_cons_self (At.self _) rfl) ?_)
        refine l_op rfl (o_callv rfl rfl rfl rfl Try.call13 rfl (isin_c (d := (cur[j]!)) (List.mem_cons_of_mem _ (List.mem_append_right _ (List.mem_cons_of_mem _ h1))) (List.mem_cons_of_mem _ (List.mem_append_right _ (List.mem_cons_of_mem _ h2))) him) ?_)
        rintro _ _ ⟨rfl, X3, rfl⟩
        refine l_op rfl (o_val rfl rfl (r_notdec rfl rfl) ?_)
        refine l_nil ?_
        refine e_next ?_
        refine t_dec rfl (fun c29 => ?_) (fun c29 => ?_)
        · skip
          refine t_seq ?_
          refine t_region ?_
          refine l_op rfl (o_val rfl rfl (r_move rfl rfl) ?_)
          refine l_op rfl (o_val rfl rfl (r_move rfl rfl) ?_)
          refine l_op rfl (o_val rfl rfl (r_loadAgg rfl Try.isAgg30 Try.sizeOf30 rfl (List.mem_append_right _ List.mem_cons_self) (At.self _) rfl) ?_)
          refine l_op rfl (o_val rfl rfl (r_indexAddr rfl rfl rfl rfl Try.underlying22 Try.sizeOf30 (by omega) (by omega)) ?_)
          refine l_op rfl (o_storeRow (sz := 32) (enc := encDig) (a0 := (cur[j]!)) (i := k1) rfl rfl rfl rfl (encDig_one _) (fun _ => rfl) Try.sizeOf30 (.app (.tail (.app .head))) (by omega) (by have hh_ := hcur; omega) ?_)
          refine l_nil ?_
          refine e_next ?_
          refine t_region ?_
          refine l_op rfl (o_val rfl rfl (r_move rfl rfl) ?_)
          refine l_op rfl (o_val rfl rfl (r_add rfl rfl rfl (by omega) (by omega)) ?_)
          refine l_op rfl (o_val rfl rfl (r_assign rfl rfl) ?_)
          refine l_nil ?_
          refine Then.slots (.cons (t := 0) rfl (.cons (t := 1) rfl (.cons (t := 4) rfl (.cons (t := 5) rfl (.cons (t := 6) rfl .nil))))) ?_
          refine e_block _ ?_
          refine e_next ?_
          refine t_region ?_
          refine l_op rfl (o_val rfl rfl (r_move rfl rfl) ?_)
          refine l_op rfl (o_val rfl rfl (r_add rfl rfl rfl (by omega) (by omega)) ?_)
          refine l_op rfl (o_val rfl rfl (r_assign rfl rfl) ?_)
          refine l_nil ?_
          obtain ⟨hta, hdr2⟩ := dl_yes hcur htk hdr (by omega) (by omega) c29
          intro aa ww hL hH
          exact ⟨_, by omega, (j + 1), (k1 + 1), (cur.set k1 (cur[j]!)), rfl, (by simpa using hcur), by omega, hta, hdr2, hL.sub (.cons (t := 0) rfl (.cons (t := 1) rfl (.cons (t := 4) rfl (.eq (t := 5) rfl (congrArg (Value.int .i64) (by first | rfl | omega | (simp only [Int.toNat_natCast]; omega))) (.eq (t := 6) rfl (congrArg (Value.int .i64) (by first | rfl | omega | (simp only [Int.toNat_natCast]; omega))) .nil))))), hH.hs (.seg (.tail (.app (.tail .here))) (.cell .head (.dropS (.drop .all))))⟩
        · skip
          refine t_skip ?_
          refine e_block _ ?_
          refine e_next ?_
          refine t_region ?_
          refine l_op rfl (o_val rfl rfl (r_move rfl rfl) ?_)
          refine l_op rfl (o_val rfl rfl (r_add rfl rfl rfl (by omega) (by omega)) ?_)
          refine l_op rfl (o_val rfl rfl (r_assign rfl rfl) ?_)
          refine l_nil ?_
          obtain ⟨hta, hdr2⟩ := dl_no htk hdr (by omega) (Decidable.of_not_not c29)
          intro aa ww hL hH
          exact ⟨_, by omega, (j + 1), k1, cur, rfl, (by simpa using hcur), by omega, hta, hdr2, hL.sub (.cons (t := 0) rfl (.cons (t := 1) rfl (.cons (t := 4) rfl (.eq (t := 5) rfl (congrArg (Value.int .i64) (by first | rfl | omega | (simp only [Int.toNat_natCast]; omega))) (.eq (t := 6) rfl (congrArg (Value.int .i64) (by first | rfl | omega | (simp only [Int.toNat_natCast]; omega))) .nil))))), hH.hs (.seg (.app (.tail .here)) (.cell (.app (.tail .head)) (.dropS (.drop .all))))⟩
      · skip
        refine t_exit ?_
        refine e_pass_exit ?_
        refine e_pass_exit ?_
        refine e_block_here ?_
        refine e_next ?_
        refine t_seq ?_
        refine t_region ?_
        refine l_op rfl (o_val rfl rfl (r_move rfl rfl) ?_)
        refine l_op rfl (o_val rfl rfl (r_move rfl rfl) ?_)
        refine l_op rfl (o_val rfl rfl (Run.eq (v' := .slice (slAddr (some ⟨b, 0, none⟩) cap k1 32) ((l).length - k1) (cap - k1)) (r_sliceFrom rfl rfl rfl Try.underlying22 Try.sizeOf30 (by omega) (by omega)) (by first | rfl | (rw [show Int.toNat (((k1 : Nat) : Int)) = k1 by omega]))) ?_)
        refine l_op rfl (o_clearRow (sz := 32) (enc := encDig) (z := Dig.zero) rfl rfl rfl Try.underlying22 Try.zeroValue30 (by kernel_rfl) (encDig_one _) (fun _ => rfl) (.app .head) (by have hh_ := hcur; omega) (by omega) (by omega) ?_)
        refine l_nil ?_
        refine e_next ?_
        refine t_seq ?_
        refine t_region ?_
        refine l_op rfl (o_val rfl rfl (r_move rfl rfl) ?_)
        refine l_op rfl (o_val rfl rfl (r_move rfl rfl) ?_)
        refine l_op rfl (o_val rfl rfl (Run.eq (v' := .slice (some ⟨b, 0, none⟩) k1 cap) (r_sliceTo rfl rfl rfl Try.underlying22 Try.sizeOf30 (by omega) (by omega)) (by first | rfl | (rw [show Int.toNat (((k1 : Nat) : Int)) = k1 by omega]))) ?_)
        refine l_op rfl (o_val rfl rfl (r_assign rfl rfl) ?_)
        refine l_nil ?_
        refine e_next ?_
        refine t_ret ?_
        refine Then.mem (.cell .head (.dropS .all)) ?_
        exact e_ret rfl (.tmp rfl .nil) ⟨k1, (cur.take k1 ++ List.replicate ((l).length - k1) Dig.zero), [], rfl, rfl, (by have hh_ : (cur.take k1 ++ List.replicate ((l).length - k1) Dig.zero).length = l.length := (clear_len hcur (by omega)); omega), by omega, (by rw [clear_take (by omega), htk, dl_end (by omega)])⟩

end Go.Sal.Sh
