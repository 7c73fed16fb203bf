/- Walks over the code of names. -/
import Derived.Test.YtbiailfegepeaaaSpec
import Derived.Test.YtbiailfegepeaaaProg
namespace Go.Sal.Nm
open Go Go.Sal Go.Proofs
set_option linter.unusedVariables false
set_option linter.unusedSimpArgs false
theorem stepOk {s : ByteArray} {k : Int} {u : UInt8} (hk : ∀ j : Nat, (j : Int) < k → ∀ u, s[j]? = some u → okByte u = true) (hu : s[k.toNat]? = some u) (h : ¬ (u.toNat : Int) < 33 ∧ ¬ (u.toNat : Int) > 126) :
    ∀ j : Nat, (j : Int) < k + 1 → ∀ u, s[j]? = some u → okByte u = true := fun j hj v hv => by
  by_cases e : (j : Int) < k
  · exact hk j e v hv
  · have : j = k.toNat := by omega
    subst this
    rw [hu] at hv
    injection hv with hv
    subst hv
    simp only [okByte, Bool.and_eq_true, decide_eq_true_eq]
    omega

theorem clone_nil {H D : Heap} {a : Option Addr} {n c : Nat} {ps : List Piece} (hs : SliceAt D encPiece 33 a n c ps) (h : a.isNone = true) :
    ∃ a2 c2 X, retV [Value.slice none 0 0] = .slice a2 n c2 ∧ H = X ++ H ∧ SliceAt (X ++ D) encPiece 33 a2 n c2 ps := by
  rcases Nat.eq_zero_or_pos n with h0 | h0
  · subst h0
    have : ps = [] := List.eq_nil_of_length_eq_zero hs.len
    subst this
    exact ⟨none, 0, [], rfl, rfl, .nil⟩
  · obtain ⟨b, off, cs, T, fr, rfl, _⟩ := hs.at_ h0
    simp at h
theorem clone_post {H D : Heap} {n : Nat} {ps : List Piece} {v : Value} {X : Heap} (hln : ps.length = n) (ho : Own 33 66 v (([] ++ ps).map encPiece) X) :
    ∃ a2 c2 X2, retV [v] = .slice a2 n c2 ∧ X ++ H = X2 ++ H ∧ SliceAt (X2 ++ D) encPiece 33 a2 n c2 ps := by
  subst hln
  obtain ⟨a, c, rfl, hs⟩ := ho.at
  exact ⟨a, c, X, rfl, rfl, hs.mono fun p hp => List.mem_append_left _ hp⟩
set_option maxRecDepth 100000 in
theorem made_nil {E : Env} {H : Heap} :
    Fn Try.prog 24 [.pointer none] E H (fun v H2 => v = .bool false ∧ H2 = H) := by
  refine Fn.of_body (N := 12) Try.func24 rfl rfl rfl ?_
  refine t_seq ?_
  refine t_region ?_
  refine l_op rfl (o_val rfl rfl (r_assign rfl rfl) ?_)
  refine l_nil ?_
  refine e_next ?_
  refine t_seq ?_
  refine t_region ?_
  refine l_op rfl (o_val rfl rfl (r_move rfl rfl) ?_)
  refine l_op rfl (o_val rfl rfl (r_nev rfl rfl rfl rfl rfl (q_nil_nil Try.underlying24)) ?_)
  refine l_op rfl (o_val rfl rfl (r_move rfl rfl) ?_)
  refine l_no rfl rfl rfl rfl rfl rfl ?_
  refine l_no rfl rfl rfl rfl rfl rfl ?_
  refine l_no rfl rfl rfl rfl rfl rfl ?_
  refine l_no rfl rfl rfl rfl rfl rfl ?_
  refine l_no rfl rfl rfl rfl rfl rfl ?_
  refine l_op rfl (o_val rfl rfl (r_pickf rfl rfl rfl) ?_)
  refine l_op rfl (o_val rfl rfl (r_assign rfl rfl) ?_)
  refine l_nil ?_
  refine e_next ?_
  refine t_ret ?_
  exact e_ret rfl (.tmp rfl .nil) ⟨rfl, rfl⟩

set_option maxRecDepth 100000 in
theorem made_empty {E : Env} {H : Heap} {b : Nat} (hb : (b, .cells ([.map none] : List Value).toArray 57 (0, 0)) ∈ H) :
    Fn Try.prog 24 [.pointer (some ⟨b, 0, none⟩)] E H (fun v H2 => v = .bool false ∧ H2 = H) := by
  refine Fn.of_body (N := 12) Try.func24 rfl rfl rfl ?_
  refine t_seq ?_
  refine t_region ?_
  refine l_op rfl (o_val rfl rfl (r_assign rfl rfl) ?_)
  refine l_nil ?_
  refine e_next ?_
  refine t_seq ?_
  refine t_region ?_
  refine l_op rfl (o_val rfl rfl (r_move rfl rfl) ?_)
  refine l_op rfl (o_val rfl rfl (r_nev rfl rfl rfl rfl rfl (q_ptr_nil Try.underlying24)) ?_)
  refine l_op rfl (o_val rfl rfl (r_move rfl rfl) ?_)
  refine l_yes rfl rfl rfl (o_val rfl rfl (r_move rfl rfl) ?_)
  refine l_yes rfl rfl rfl (o_val rfl rfl (r_nilCheck rfl rfl) ?_)
  refine l_yes rfl rfl rfl (o_val rfl rfl (r_fieldAddr (k := 0) rfl rfl Try.underlying57 rfl Try.sizeOf55 rfl rfl) ?_)
  refine l_yes rfl rfl rfl (o_val rfl rfl (r_load (v := .map none) rfl Try.isAgg55 rfl hb rfl) ?_)
  refine l_yes rfl rfl rfl (o_val rfl rfl (r_nev rfl rfl rfl rfl rfl (q_mapn_nil Try.underlying55)) ?_)
  refine l_op rfl (o_val rfl rfl (r_pickt rfl rfl rfl) ?_)
  refine l_op rfl (o_val rfl rfl (r_assign rfl rfl) ?_)
  refine l_nil ?_
  refine e_next ?_
  refine t_ret ?_
  exact e_ret rfl (.tmp rfl .nil) ⟨rfl, rfl⟩

set_option maxRecDepth 100000 in
theorem isPath_c {E : Env} {H : Heap} (s : ByteArray) :
    Fn Try.prog 72 [.string s] E H (fun v H2 => v = .bool (isPath s) ∧ H2 = H) := by
  refine Fn.of_body (N := 28) Try.func72 rfl rfl rfl ?_
  refine t_seq ?_
  refine t_region ?_
  refine l_op rfl (o_val rfl rfl (r_assign rfl rfl) ?_)
  refine l_nil ?_
  refine e_next ?_
  refine t_seq ?_
  refine t_cut (fun aa ww => Sl 28 [(0, .string s), (2, .bool (false)), (11, .bool ((decide ((s.size : Int) < 1) || decide ((s.size : Int) > 255))))] aa ∧ Holds E H ww) ?_ ?_
  · skip
    refine t_region ?_
    refine l_op rfl (o_val rfl rfl (r_move rfl rfl) ?_)
    refine l_op rfl (o_val rfl rfl (r_lenStr rfl rfl Try.underlying9) ?_)
    refine l_op rfl (o_val rfl rfl (r_lt rfl rfl rfl) ?_)
    refine l_op rfl (o_val rfl rfl (r_move rfl rfl) ?_)
    refine t_bool (decide ((s.size : Int) < 1)) (fun hb1 => ?_) (fun hb1 => ?_)
    · skip
      have phb1 := of_decide_eq_true hb1
      refine l_noh rfl rfl rfl hb1 rfl rfl ?_
      refine l_noh rfl rfl rfl hb1 rfl rfl ?_
      refine l_noh rfl rfl rfl hb1 rfl rfl ?_
      refine l_op rfl (o_val rfl rfl (r_pickth rfl rfl hb1 rfl) ?_)
      refine l_nil ?_
      intro aa ww hL hH
      exact ⟨hL.sub (.cons (t := 0) rfl (.cons (t := 2) rfl (.eq (t := 11) rfl (by first | (simp [hb1]; done) | (simp only [hb1, Bool.true_and, Bool.false_and, Bool.true_or, Bool.false_or, Bool.and_true, Bool.and_false]; done)) .nil))), hH.hs .all⟩
    · skip
      have phb1 := of_decide_eq_false hb1
      refine l_yesh rfl rfl rfl hb1 (o_val rfl rfl (r_move rfl rfl) ?_)
      refine l_yesh rfl rfl rfl hb1 (o_val rfl rfl (r_lenStr rfl rfl Try.underlying9) ?_)
      refine l_yesh rfl rfl rfl hb1 (o_val rfl rfl (r_gt rfl rfl rfl) ?_)
      refine l_op rfl (o_val rfl rfl (r_pickfh rfl rfl hb1 rfl) ?_)
      refine l_nil ?_
      intro aa ww hL hH
      exact ⟨hL.sub (.cons (t := 0) rfl (.cons (t := 2) rfl (.eq (t := 11) rfl (by first | (simp [hb1]; done) | (simp only [hb1, Bool.true_and, Bool.false_and, Bool.true_or, Bool.false_or, Bool.and_true, Bool.and_false]; done)) .nil))), hH.hs .all⟩
  rintro aa ww ⟨hL, hH⟩
  refine Then.run hL hH ?_
  clear hL hH aa ww
  refine t_cond rfl (fun c11 => ?_) (fun c11 => ?_)
  · skip
    try simp only [Bool.or_eq_true, Bool.and_eq_true, decide_eq_true_eq, Bool.not_eq_true', decide_eq_false_iff_not] at c11
    refine t_seq ?_
    refine t_region ?_
    refine l_op rfl (o_val rfl rfl (r_assign rfl rfl) ?_)
    refine l_nil ?_
    refine e_next ?_
    refine t_ret ?_
    refine e_pass_ret ?_
    exact e_ret rfl (.tmp rfl .nil) ⟨by rw [isPath_short c11]; rfl, rfl⟩
  · skip
    try simp only [Bool.or_eq_false_iff, Bool.and_eq_false_iff, decide_eq_false_iff_not, Bool.not_eq_false', decide_eq_true_eq] at c11
    refine t_skip ?_
    refine e_next ?_
    refine t_seq ?_
    refine t_seq ?_
    refine t_region ?_
    refine l_op rfl (o_val rfl rfl (r_move rfl rfl) ?_)
    refine l_op rfl (o_val rfl rfl (r_lenStr rfl rfl Try.underlying9) ?_)
    refine l_op rfl (o_val rfl rfl (r_move rfl rfl) ?_)
    refine l_nil ?_
    refine e_next ?_
    refine t_block ?_
    refine t_loop (fun (mz : Nat) aa ww => ∃ (k : Int), mz = (s.size - k.toNat) ∧ (0 ≤ k) ∧ (k ≤ s.size) ∧ (∀ j : Nat, (j : Int) < k → ∀ u, s[j]? = some u → okByte u = true) ∧ Sl 28 [(0, .string s), (13, .int .i64 ((s.size : Int))), (14, .int .i64 (k))] aa ∧ Holds E H ww) (s.size) ?_ ?_
    · intro aa ww hL hH
      exact ⟨0, rfl, by omega, by omega, by intro j hj; omega, hL.sub (.cons (t := 0) rfl (.cons (t := 13) rfl (.cons (t := 14) rfl .nil))), hH.hs .all⟩
    · skip
      rintro mz aa ww ⟨k, hmz, h0, h1, hk, hL, hH⟩
      refine Then.run hL hH ?_
      clear hL hH aa ww
      refine t_seq ?_
      refine t_region ?_
      refine l_op rfl (o_val rfl rfl (r_lt rfl rfl rfl) ?_)
      refine l_nil ?_
      refine e_next ?_
      refine t_seq ?_
      refine t_dec rfl (fun c15 => ?_) (fun c15 => ?_)
      · skip
        refine t_skip ?_
        refine e_next ?_
        refine t_seq ?_
        refine t_block ?_
        refine t_seq ?_
        refine t_region ?_
        refine l_op rfl (o_val rfl rfl (r_move rfl rfl) ?_)
        refine l_op rfl (o_val rfl rfl (r_assign rfl rfl) ?_)
        refine l_nil ?_
        refine e_next ?_
        obtain ⟨u1, hu1⟩ : ∃ u, s[Int.toNat (k)]? = some u := baSome (by omega)
        refine t_cut (fun aa ww => Sl 28 [(0, .string s), (13, .int .i64 ((s.size : Int))), (14, .int .i64 (k)), (26, .bool ((decide ((u1.toNat : Int) < 33) || decide ((u1.toNat : Int) > 126))))] aa ∧ Holds E H ww) ?_ ?_
        · skip
          refine t_region ?_
          refine l_op rfl (o_val rfl rfl (r_move rfl rfl) ?_)
          refine l_op rfl (o_val rfl rfl (r_move rfl rfl) ?_)
          refine l_op rfl (o_val rfl rfl (r_indexStr rfl rfl rfl Try.underlying9 (by omega) hu1) ?_)
          refine l_op rfl (o_val rfl rfl (r_lt rfl rfl rfl) ?_)
          refine l_op rfl (o_val rfl rfl (r_move rfl rfl) ?_)
          refine t_bool (decide ((u1.toNat : Int) < 33)) (fun hb2 => ?_) (fun hb2 => ?_)
          · skip
            have phb2 := of_decide_eq_true hb2
            refine l_noh rfl rfl rfl hb2 rfl rfl ?_
            refine l_noh rfl rfl rfl hb2 rfl rfl ?_
            refine l_noh rfl rfl rfl hb2 rfl rfl ?_
            refine l_noh rfl rfl rfl hb2 rfl rfl ?_
            refine l_op rfl (o_val rfl rfl (r_pickth rfl rfl hb2 rfl) ?_)
            refine l_nil ?_
            intro aa ww hL hH
            exact ⟨hL.sub (.cons (t := 0) rfl (.cons (t := 13) rfl (.cons (t := 14) rfl (.eq (t := 26) rfl (by first | (simp [hb2]; done) | (simp only [hb2, Bool.true_and, Bool.false_and, Bool.true_or, Bool.false_or, Bool.and_true, Bool.and_false]; done)) .nil)))), hH.hs .all⟩
          · skip
            have phb2 := of_decide_eq_false hb2
            refine l_yesh rfl rfl rfl hb2 (o_val rfl rfl (r_move rfl rfl) ?_)
            refine l_yesh rfl rfl rfl hb2 (o_val rfl rfl (r_move rfl rfl) ?_)
            refine l_yesh rfl rfl rfl hb2 (o_val rfl rfl (r_indexStr rfl rfl rfl Try.underlying9 (by omega) hu1) ?_)
            refine l_yesh rfl rfl rfl hb2 (o_val rfl rfl (r_gt rfl rfl rfl) ?_)
            refine l_op rfl (o_val rfl rfl (r_pickfh rfl rfl hb2 rfl) ?_)
            refine l_nil ?_
            intro aa ww hL hH
            exact ⟨hL.sub (.cons (t := 0) rfl (.cons (t := 13) rfl (.cons (t := 14) rfl (.eq (t := 26) rfl (by first | (simp [hb2]; done) | (simp only [hb2, Bool.true_and, Bool.false_and, Bool.true_or, Bool.false_or, Bool.and_true, Bool.and_false]; done)) .nil)))), hH.hs .all⟩
        rintro aa ww ⟨hL, hH⟩
        refine Then.run hL hH ?_
        clear hL hH aa ww
        refine t_cond rfl (fun c26 => ?_) (fun c26 => ?_)
        · skip
          try simp only [Bool.or_eq_true, Bool.and_eq_true, decide_eq_true_eq, Bool.not_eq_true', decide_eq_false_iff_not] at c26
          refine t_seq ?_
          refine t_region ?_
          refine l_op rfl (o_val rfl rfl (r_assign rfl rfl) ?_)
          refine l_nil ?_
          refine e_next ?_
          refine t_ret ?_
          refine e_block_ret ?_
          refine e_pass_ret ?_
          refine e_pass_ret ?_
          refine e_block_ret ?_
          refine e_pass_ret ?_
          exact e_ret rfl (.tmp rfl .nil) ⟨by rw [isPath_false hu1 c26]; rfl, rfl⟩
        · skip
          try simp only [Bool.or_eq_false_iff, Bool.and_eq_false_iff, decide_eq_false_iff_not, Bool.not_eq_false', decide_eq_true_eq] at c26
          refine t_skip ?_
          refine e_block _ ?_
          refine e_next ?_
          refine t_region ?_
          refine l_op rfl (o_val rfl rfl (r_add rfl rfl rfl (by omega) (by omega)) ?_)
          refine l_op rfl (o_val rfl rfl (r_move rfl rfl) ?_)
          refine l_nil ?_
          intro aa ww hL hH
          exact ⟨_, by omega, k + 1, rfl, by omega, by omega, stepOk hk hu1 c26, hL.sub (.cons (t := 0) rfl (.cons (t := 13) rfl (.cons (t := 14) rfl .nil))), hH.hs .all⟩
      · skip
        refine t_exit ?_
        refine e_pass_exit ?_
        refine e_pass_exit ?_
        refine e_block_here ?_
        refine e_next ?_
        refine t_seq ?_
        refine t_region ?_
        refine l_op rfl (o_val rfl rfl (r_assign rfl rfl) ?_)
        refine l_nil ?_
        refine e_next ?_
        refine t_ret ?_
        exact e_ret rfl (.tmp rfl .nil) ⟨by rw [isPath_true (by omega) (by omega) (fun j hj => hk j (by omega))]; rfl, rfl⟩

set_option maxRecDepth 100000 in
theorem size_c {E : Env} {H D : Heap} (hD : ∀ p, p ∈ D → p ∈ H) {a : Option Addr} {n c : Nat} {ps : List Piece} (hs : SliceAt D encPiece 33 a n c ps) :
    Fn Try.prog 31 [.slice a n c] E H (fun v H2 => v = sizeV ps ∧ ∃ X, H2 = X ++ H) := by
  have hln := hs.len
  refine Fn.of_body (N := 32) Try.func31 rfl rfl rfl ?_
  refine t_seq ?_
  refine t_region ?_
  refine l_op rfl (o_val rfl rfl (r_assign rfl rfl) ?_)
  refine l_op rfl (o_val rfl rfl (r_assign rfl rfl) ?_)
  refine l_nil ?_
  refine e_next ?_
  refine t_seq ?_
  refine t_seq ?_
  refine t_region ?_
  refine l_op rfl (o_val rfl rfl (r_move rfl rfl) ?_)
  refine l_op rfl (o_val rfl rfl (r_len rfl rfl Try.underlying44) ?_)
  refine l_op rfl (o_val rfl rfl (r_gt rfl rfl rfl) ?_)
  refine l_nil ?_
  refine e_next ?_
  refine t_dec rfl (fun c9 => ?_) (fun c9 => ?_)
  · skip
    refine t_seq ?_
    refine t_region ?_
    refine l_op rfl (o_val rfl rfl (r_assign rfl rfl) ?_)
    refine l_op rfl (o_val rfl rfl (r_assign rfl rfl) ?_)
    refine l_nil ?_
    refine e_next ?_
    refine t_ret ?_
    refine e_pass_ret ?_
    exact e_ret rfl (.tmp rfl (.tmp rfl .nil)) ⟨(sizeV_long (by have := hs.len; omega)).symm, [], rfl⟩
  · skip
    refine t_skip ?_
    refine e_next ?_
    refine t_seq ?_
    refine t_region ?_
    refine l_op rfl (o_val rfl rfl (r_assign rfl rfl) ?_)
    refine l_nil ?_
    refine e_next ?_
    refine t_seq ?_
    refine t_seq ?_
    refine t_region ?_
    refine l_op rfl (o_val rfl rfl (r_move rfl rfl) ?_)
    refine l_op rfl (o_val rfl rfl (r_len rfl rfl Try.underlying44) ?_)
    refine l_op rfl (o_val rfl rfl (r_move rfl rfl) ?_)
    refine l_nil ?_
    refine e_next ?_
    refine t_block ?_
    refine t_loop (fun (mz : Nat) aa ww => ∃ (k : Int) (z : Int), mz = (n - k.toNat) ∧ (0 ≤ k) ∧ (k ≤ n) ∧ (sizeGo 0 (ps.take k.toNat) = some z) ∧ (0 ≤ z ∧ z ≤ 1048576) ∧ Sl 32 [(4, .int .i64 (z)), (10, .slice a n c), (11, .int .i64 ((n : Int))), (12, .int .i64 (k))] aa ∧ Holds E H ww) (n) ?_ ?_
    · intro aa ww hL hH
      exact ⟨0, 0, rfl, by omega, by omega, rfl, by omega, hL.sub (.cons (t := 4) rfl (.cons (t := 10) rfl (.cons (t := 11) rfl (.cons (t := 12) rfl .nil)))), hH.hs .all⟩
    · skip
      rintro mz aa ww ⟨k, z, hmz, h0, h1, hz, hz0, hL, hH⟩
      refine Then.run hL hH ?_
      clear hL hH aa ww
      refine t_seq ?_
      refine t_region ?_
      refine l_op rfl (o_val rfl rfl (r_lt rfl rfl rfl) ?_)
      refine l_nil ?_
      refine e_next ?_
      refine t_seq ?_
      refine t_dec rfl (fun c13 => ?_) (fun c13 => ?_)
      · skip
        refine t_skip ?_
        refine e_next ?_
        refine t_seq ?_
        refine t_block ?_
        refine t_seq ?_
        refine t_region ?_
        obtain ⟨b1, o1, cs1, T1, f1, ha1, hm1, hr1⟩ := SliceAt.opn hs (by omega)
        obtain ⟨p1, hx1⟩ : ∃ x, ps[Int.toNat (k)]? = some x := getSome (by have := hs.len; omega)
        refine l_op rfl (o_val rfl rfl (r_indexAddr rfl rfl ha1 rfl Try.underlying44 Try.sizeOf66 (by omega) (by omega)) ?_)
        refine l_op rfl (o_val rfl rfl (r_loadAgg rfl Try.isAgg66 Try.sizeOf66 rfl ((fun p hp => (hD _ hp)) _ hm1) (Row.elem hr1 hx1) rfl) ?_)
        refine l_op rfl (o_alloc rfl rfl rfl Try.zeroValue66 rfl ?_)
        intro b2
        refine l_op rfl (o_storeAgg (ys := encPiece p1) rfl rfl rfl rfl rfl Try.sizeOf66 .head rfl ?_)
        refine l_nil ?_
        refine e_next ?_
        refine t_seq ?_
        refine t_cut (fun aa ww => Sl 32 [(4, .int .i64 (z)), (6, .pointer (some ⟨b2, 0, none⟩)), (10, .slice a n c), (11, .int .i64 ((n : Int))), (12, .int .i64 (k)), (23, .bool ((decide (p1.n < 1) || decide (p1.n > 4096))))] aa ∧ Holds E ((b2, .cells (encPiece p1).toArray 66 (0, 0)) :: H) ww) ?_ ?_
        · skip
          refine t_region ?_
          refine l_op rfl (o_val rfl rfl (r_fieldAddr (k := 32) rfl rfl Try.underlying66 rfl Try.sizeOf3 rfl rfl) ?_)
          refine l_op rfl (o_val rfl rfl (r_load (v := .int .i64 (p1.n)) rfl Try.isAgg3 rfl List.mem_cons_self rfl) ?_)
          refine l_op rfl (o_val rfl rfl (r_lt rfl rfl rfl) ?_)
          refine l_op rfl (o_val rfl rfl (r_move rfl rfl) ?_)
          refine t_bool (decide (p1.n < 1)) (fun hb3 => ?_) (fun hb3 => ?_)
          · skip
            have phb3 := of_decide_eq_true hb3
            refine l_noh rfl rfl rfl hb3 rfl rfl ?_
            refine l_noh rfl rfl rfl hb3 rfl rfl ?_
            refine l_noh rfl rfl rfl hb3 rfl rfl ?_
            refine l_op rfl (o_val rfl rfl (r_pickth rfl rfl hb3 rfl) ?_)
            refine l_nil ?_
            intro aa ww hL hH
            exact ⟨hL.sub (.cons (t := 4) rfl (.cons (t := 6) rfl (.cons (t := 10) rfl (.cons (t := 11) rfl (.cons (t := 12) rfl (.eq (t := 23) rfl (by first | (simp [hb3]; done) | (simp only [hb3, Bool.true_and, Bool.false_and, Bool.true_or, Bool.false_or, Bool.and_true, Bool.and_false]; done)) .nil)))))), hH.hs (.cell .head .all)⟩
          · skip
            have phb3 := of_decide_eq_false hb3
            refine l_yesh rfl rfl rfl hb3 (o_val rfl rfl (r_fieldAddr (k := 32) rfl rfl Try.underlying66 rfl Try.sizeOf3 rfl rfl) ?_)
            refine l_yesh rfl rfl rfl hb3 (o_val rfl rfl (r_load (v := .int .i64 (p1.n)) rfl Try.isAgg3 rfl List.mem_cons_self rfl) ?_)
            refine l_yesh rfl rfl rfl hb3 (o_val rfl rfl (r_gt rfl rfl rfl) ?_)
            refine l_op rfl (o_val rfl rfl (r_pickfh rfl rfl hb3 rfl) ?_)
            refine l_nil ?_
            intro aa ww hL hH
            exact ⟨hL.sub (.cons (t := 4) rfl (.cons (t := 6) rfl (.cons (t := 10) rfl (.cons (t := 11) rfl (.cons (t := 12) rfl (.eq (t := 23) rfl (by first | (simp [hb3]; done) | (simp only [hb3, Bool.true_and, Bool.false_and, Bool.true_or, Bool.false_or, Bool.and_true, Bool.and_false]; done)) .nil)))))), hH.hs (.cell .head .all)⟩
        rintro aa ww ⟨hL, hH⟩
        refine Then.run hL hH ?_
        clear hL hH aa ww
        refine t_cond rfl (fun c23 => ?_) (fun c23 => ?_)
        · skip
          try simp only [Bool.or_eq_true, Bool.and_eq_true, decide_eq_true_eq, Bool.not_eq_true', decide_eq_false_iff_not] at c23
          refine t_seq ?_
          refine t_region ?_
          refine l_op rfl (o_val rfl rfl (r_assign rfl rfl) ?_)
          refine l_op rfl (o_val rfl rfl (r_assign rfl rfl) ?_)
          refine l_nil ?_
          refine e_next ?_
          refine t_ret ?_
          refine e_pass_ret ?_
          refine e_block_ret ?_
          refine e_pass_ret ?_
          refine e_pass_ret ?_
          refine e_block_ret ?_
          refine e_pass_ret ?_
          exact e_ret rfl (.tmp rfl (.tmp rfl .nil)) ⟨(sizeV_bad hz hx1 (.inl c23)).symm, [_], rfl⟩
        · skip
          try simp only [Bool.or_eq_false_iff, Bool.and_eq_false_iff, decide_eq_false_iff_not, Bool.not_eq_false', decide_eq_true_eq] at c23
          refine t_skip ?_
          refine e_next ?_
          refine t_seq ?_
          refine t_region ?_
          refine l_op rfl (o_val rfl rfl (r_move rfl rfl) ?_)
          refine l_op rfl (o_val rfl rfl (r_fieldAddr (k := 32) rfl rfl Try.underlying66 rfl Try.sizeOf3 rfl rfl) ?_)
          refine l_op rfl (o_val rfl rfl (r_load (v := .int .i64 (p1.n)) rfl Try.isAgg3 rfl List.mem_cons_self rfl) ?_)
          refine l_op rfl (o_val rfl rfl (r_add rfl rfl rfl (by omega) (by omega)) ?_)
          refine l_op rfl (o_val rfl rfl (r_assign rfl rfl) ?_)
          refine l_nil ?_
          refine e_next ?_
          refine t_seq ?_
          refine t_region ?_
          refine l_op rfl (o_val rfl rfl (r_move rfl rfl) ?_)
          refine l_op rfl (o_val rfl rfl (r_gt rfl rfl rfl) ?_)
          refine l_nil ?_
          refine e_next ?_
          refine t_dec rfl (fun c29 => ?_) (fun c29 => ?_)
          · skip
            refine t_seq ?_
            refine t_region ?_
            refine l_op rfl (o_val rfl rfl (r_assign rfl rfl) ?_)
            refine l_op rfl (o_val rfl rfl (r_assign rfl rfl) ?_)
            refine l_nil ?_
            refine e_next ?_
            refine t_ret ?_
            refine e_block_ret ?_
            refine e_pass_ret ?_
            refine e_pass_ret ?_
            refine e_block_ret ?_
            refine e_pass_ret ?_
            exact e_ret rfl (.tmp rfl (.tmp rfl .nil)) ⟨(sizeV_bad hz hx1 (.inr c29)).symm, [_], rfl⟩
          · skip
            refine t_skip ?_
            refine e_block _ ?_
            refine e_next ?_
            refine t_region ?_
            refine l_op rfl (o_val rfl rfl (r_add rfl rfl rfl (by omega) (by omega)) ?_)
            refine l_op rfl (o_val rfl rfl (r_move rfl rfl) ?_)
            refine l_nil ?_
            intro aa ww hL hH
            exact ⟨_, by omega, k + 1, z + p1.n, rfl, by omega, by omega, by rw [show (k + 1).toNat = k.toNat + 1 by omega, sizeGo_take_step hz hx1, if_neg (by omega), if_neg (by omega)], by omega, hL.sub (.cons (t := 4) rfl (.cons (t := 10) rfl (.cons (t := 11) rfl (.cons (t := 12) rfl .nil)))), hH.hs (.drop .all)⟩
      · skip
        refine t_exit ?_
        refine e_pass_exit ?_
        refine e_pass_exit ?_
        refine e_block_here ?_
        refine e_next ?_
        refine t_seq ?_
        refine t_region ?_
        refine l_op rfl (o_val rfl rfl (r_move rfl rfl) ?_)
        refine l_op rfl (o_val rfl rfl (r_assign rfl rfl) ?_)
        refine l_op rfl (o_val rfl rfl (r_assign rfl rfl) ?_)
        refine l_nil ?_
        refine e_next ?_
        refine t_ret ?_
        exact e_ret rfl (.tmp rfl (.tmp rfl .nil)) ⟨(sizeV_all (by omega) hz (by omega)).symm, [], rfl⟩

set_option maxRecDepth 100000 in
theorem fits_c {E : Env} {H D : Heap} (hD : ∀ p, p ∈ D → p ∈ H) {r : Rec} {ps : List Piece} (hs : SliceAt D encPiece 33 r.pa r.pn r.pc ps) :
    Fn Try.prog 55 [.agg (encRec r).toArray] E H (fun v H2 => v = .bool (fits r ps) ∧ ∃ X, H2 = X ++ H) := by
  have hln := hs.len
  refine Fn.of_body (N := 54) Try.func55 rfl rfl rfl ?_
  refine t_seq ?_
  refine t_region ?_
  refine l_op rfl (o_box rfl rfl rfl rfl rfl ?_)
  intro b1
  refine l_op rfl (o_val rfl rfl (r_assign rfl rfl) ?_)
  refine l_nil ?_
  refine e_next ?_
  refine t_seq ?_
  refine t_seq ?_
  refine t_region ?_
  refine l_op rfl (o_val rfl rfl (r_fieldAddr (k := 34) rfl rfl Try.underlying46 rfl Try.sizeOf40 rfl rfl) ?_)
  refine l_op rfl (o_val rfl rfl (r_load (v := .int .i64 (r.kind)) rfl Try.isAgg40 rfl List.mem_cons_self rfl) ?_)
  refine l_nil ?_
  refine e_next ?_
  refine t_block ?_
  refine t_seq ?_
  refine t_block ?_
  refine t_seq ?_
  refine t_block ?_
  refine t_seq ?_
  refine t_block ?_
  refine t_seq ?_
  refine t_seq ?_
  refine t_seq ?_
  refine t_region ?_
  refine l_op rfl (o_val rfl rfl (r_eq rfl rfl rfl) ?_)
  refine l_op rfl (o_val rfl rfl (r_assign rfl rfl) ?_)
  refine l_nil ?_
  refine e_next ?_
  refine t_dec rfl (fun c7 => ?_) (fun c7 => ?_)
  · skip
    refine t_exit ?_
    refine e_pass_exit ?_
    refine e_pass_exit ?_
    refine e_block_here ?_
    refine e_next ?_
    refine t_seq ?_
    refine t_seq ?_
    refine t_region ?_
    refine l_op rfl (o_val rfl rfl (r_fieldAddr (k := 35) rfl rfl Try.underlying46 rfl Try.sizeOf3 rfl rfl) ?_)
    refine l_op rfl (o_val rfl rfl (r_load (v := .int .i64 (r.site)) rfl Try.isAgg3 rfl List.mem_cons_self rfl) ?_)
    refine l_op rfl (o_val rfl rfl (r_eq rfl rfl rfl) ?_)
    refine l_op rfl (o_val rfl rfl (r_move rfl rfl) ?_)
    refine t_bool (decide (r.site = 0)) (fun hb2 => ?_) (fun hb2 => ?_)
    · skip
      have phb2 := of_decide_eq_true hb2
      refine l_noh rfl rfl rfl hb2 rfl rfl ?_
      refine l_noh rfl rfl rfl hb2 rfl rfl ?_
      refine l_noh rfl rfl rfl hb2 rfl rfl ?_
      refine l_op rfl (o_val rfl rfl (r_pickth rfl rfl hb2 rfl) ?_)
      refine l_op rfl (o_val rfl rfl (r_move rfl rfl) ?_)
      refine l_yes rfl rfl rfl (o_val rfl rfl (r_fieldAddr (k := 36) rfl rfl Try.underlying46 rfl Try.sizeOf9 rfl rfl) ?_)
      refine l_yes rfl rfl rfl (o_val rfl rfl (r_load (v := .string r.path) rfl Try.isAgg9 rfl List.mem_cons_self rfl) ?_)
      refine l_yes rfl rfl rfl (o_val rfl rfl (r_seq rfl rfl rfl) ?_)
      refine l_op rfl (o_val rfl rfl (r_pickt rfl rfl rfl) ?_)
      refine l_op rfl (o_val rfl rfl (r_move rfl rfl) ?_)
      refine t_bool (decide (r.path = (⟨#[]⟩ : ByteArray))) (fun hb3 => ?_) (fun hb3 => ?_)
      · skip
        have phb3 := of_decide_eq_true hb3
        refine l_yesh rfl rfl rfl hb3 (o_val rfl rfl (r_fieldAddr (k := 37) rfl rfl Try.underlying46 rfl Try.sizeOf44 rfl rfl) ?_)
        refine l_yesh rfl rfl rfl hb3 (o_val rfl rfl (r_load (v := .slice r.pa r.pn r.pc) rfl Try.isAgg44 rfl List.mem_cons_self rfl) ?_)
        refine l_yesh rfl rfl rfl hb3 (o_val rfl rfl (r_len rfl rfl Try.underlying44) ?_)
        refine l_yesh rfl rfl rfl hb3 (o_val rfl rfl (r_eq rfl rfl rfl) ?_)
        refine l_op rfl (o_val rfl rfl (r_pickth rfl rfl hb3 rfl) ?_)
        refine l_op rfl (o_val rfl rfl (r_assign rfl rfl) ?_)
        refine l_nil ?_
        refine Then.slots (.cons (t := 1) rfl (.cons (t := 2) rfl .nil)) ?_
        refine e_next ?_
        refine t_ret ?_
        refine e_pass_ret ?_
        refine e_block_ret ?_
        refine e_pass_ret ?_
        refine e_block_ret ?_
        refine e_pass_ret ?_
        refine e_block_ret ?_
        refine e_pass_ret ?_
        exact e_ret rfl (.tmp rfl .nil) ⟨by first | (simp [fits, retV, *]; done) | (simp [fits, retV, *] <;> (intros; omega)) | exact congrArg Value.bool (fits_del_ok c9 (by omega) hz).symm, Pre.ex (.cons .refl)⟩
      · skip
        have phb3 := of_decide_eq_false hb3
        refine l_noh rfl rfl rfl hb3 rfl rfl ?_
        refine l_noh rfl rfl rfl hb3 rfl rfl ?_
        refine l_noh rfl rfl rfl hb3 rfl rfl ?_
        refine l_noh rfl rfl rfl hb3 rfl rfl ?_
        refine l_op rfl (o_val rfl rfl (r_pickfh rfl rfl hb3 rfl) ?_)
        refine l_op rfl (o_val rfl rfl (r_assign rfl rfl) ?_)
        refine l_nil ?_
        refine Then.slots (.cons (t := 1) rfl (.cons (t := 2) rfl .nil)) ?_
        refine e_next ?_
        refine t_ret ?_
        refine e_pass_ret ?_
        refine e_block_ret ?_
        refine e_pass_ret ?_
        refine e_block_ret ?_
        refine e_pass_ret ?_
        refine e_block_ret ?_
        refine e_pass_ret ?_
        exact e_ret rfl (.tmp rfl .nil) ⟨by first | (simp [fits, retV, *]; done) | (simp [fits, retV, *] <;> (intros; omega)) | exact congrArg Value.bool (fits_del_ok c9 (by omega) hz).symm, Pre.ex (.cons .refl)⟩
    · skip
      have phb2 := of_decide_eq_false hb2
      refine l_yesh rfl rfl rfl hb2 (o_val rfl rfl (r_fieldAddr (k := 35) rfl rfl Try.underlying46 rfl Try.sizeOf3 rfl rfl) ?_)
      refine l_yesh rfl rfl rfl hb2 (o_val rfl rfl (r_load (v := .int .i64 (r.site)) rfl Try.isAgg3 rfl List.mem_cons_self rfl) ?_)
      refine l_yesh rfl rfl rfl hb2 (o_val rfl rfl (r_eq rfl rfl rfl) ?_)
      refine l_op rfl (o_val rfl rfl (r_pickfh rfl rfl hb2 rfl) ?_)
      refine l_op rfl (o_val rfl rfl (r_move rfl rfl) ?_)
      refine t_bool (decide (r.site = 1)) (fun hb4 => ?_) (fun hb4 => ?_)
      · skip
        have phb4 := of_decide_eq_true hb4
        refine l_yesh rfl rfl rfl hb4 (o_val rfl rfl (r_fieldAddr (k := 36) rfl rfl Try.underlying46 rfl Try.sizeOf9 rfl rfl) ?_)
        refine l_yesh rfl rfl rfl hb4 (o_val rfl rfl (r_load (v := .string r.path) rfl Try.isAgg9 rfl List.mem_cons_self rfl) ?_)
        refine l_yesh rfl rfl rfl hb4 (o_val rfl rfl (r_seq rfl rfl rfl) ?_)
        refine l_op rfl (o_val rfl rfl (r_pickth rfl rfl hb4 rfl) ?_)
        refine l_op rfl (o_val rfl rfl (r_move rfl rfl) ?_)
        refine t_bool (decide (r.path = (⟨#[]⟩ : ByteArray))) (fun hb5 => ?_) (fun hb5 => ?_)
        · skip
          have phb5 := of_decide_eq_true hb5
          refine l_yesh rfl rfl rfl hb5 (o_val rfl rfl (r_fieldAddr (k := 37) rfl rfl Try.underlying46 rfl Try.sizeOf44 rfl rfl) ?_)
          refine l_yesh rfl rfl rfl hb5 (o_val rfl rfl (r_load (v := .slice r.pa r.pn r.pc) rfl Try.isAgg44 rfl List.mem_cons_self rfl) ?_)
          refine l_yesh rfl rfl rfl hb5 (o_val rfl rfl (r_len rfl rfl Try.underlying44) ?_)
          refine l_yesh rfl rfl rfl hb5 (o_val rfl rfl (r_eq rfl rfl rfl) ?_)
          refine l_op rfl (o_val rfl rfl (r_pickth rfl rfl hb5 rfl) ?_)
          refine l_op rfl (o_val rfl rfl (r_assign rfl rfl) ?_)
          refine l_nil ?_
          refine Then.slots (.cons (t := 1) rfl (.cons (t := 2) rfl .nil)) ?_
          refine e_next ?_
          refine t_ret ?_
          refine e_pass_ret ?_
          refine e_block_ret ?_
          refine e_pass_ret ?_
          refine e_block_ret ?_
          refine e_pass_ret ?_
          refine e_block_ret ?_
          refine e_pass_ret ?_
          exact e_ret rfl (.tmp rfl .nil) ⟨by first | (simp [fits, retV, *]; done) | (simp [fits, retV, *] <;> (intros; omega)) | exact congrArg Value.bool (fits_del_ok c9 (by omega) hz).symm, Pre.ex (.cons .refl)⟩
        · skip
          have phb5 := of_decide_eq_false hb5
          refine l_noh rfl rfl rfl hb5 rfl rfl ?_
          refine l_noh rfl rfl rfl hb5 rfl rfl ?_
          refine l_noh rfl rfl rfl hb5 rfl rfl ?_
          refine l_noh rfl rfl rfl hb5 rfl rfl ?_
          refine l_op rfl (o_val rfl rfl (r_pickfh rfl rfl hb5 rfl) ?_)
          refine l_op rfl (o_val rfl rfl (r_assign rfl rfl) ?_)
          refine l_nil ?_
          refine Then.slots (.cons (t := 1) rfl (.cons (t := 2) rfl .nil)) ?_
          refine e_next ?_
          refine t_ret ?_
          refine e_pass_ret ?_
          refine e_block_ret ?_
          refine e_pass_ret ?_
          refine e_block_ret ?_
          refine e_pass_ret ?_
          refine e_block_ret ?_
          refine e_pass_ret ?_
          exact e_ret rfl (.tmp rfl .nil) ⟨by first | (simp [fits, retV, *]; done) | (simp [fits, retV, *] <;> (intros; omega)) | exact congrArg Value.bool (fits_del_ok c9 (by omega) hz).symm, Pre.ex (.cons .refl)⟩
      · skip
        have phb4 := of_decide_eq_false hb4
        refine l_noh rfl rfl rfl hb4 rfl rfl ?_
        refine l_noh rfl rfl rfl hb4 rfl rfl ?_
        refine l_noh rfl rfl rfl hb4 rfl rfl ?_
        refine l_op rfl (o_val rfl rfl (r_pickfh rfl rfl hb4 rfl) ?_)
        refine l_op rfl (o_val rfl rfl (r_move rfl rfl) ?_)
        refine l_no rfl rfl rfl rfl rfl rfl ?_
        refine l_no rfl rfl rfl rfl rfl rfl ?_
        refine l_no rfl rfl rfl rfl rfl rfl ?_
        refine l_no rfl rfl rfl rfl rfl rfl ?_
        refine l_op rfl (o_val rfl rfl (r_pickf rfl rfl rfl) ?_)
        refine l_op rfl (o_val rfl rfl (r_assign rfl rfl) ?_)
        refine l_nil ?_
        refine Then.slots (.cons (t := 1) rfl (.cons (t := 2) rfl .nil)) ?_
        refine e_next ?_
        refine t_ret ?_
        refine e_pass_ret ?_
        refine e_block_ret ?_
        refine e_pass_ret ?_
        refine e_block_ret ?_
        refine e_pass_ret ?_
        refine e_block_ret ?_
        refine e_pass_ret ?_
        exact e_ret rfl (.tmp rfl .nil) ⟨by first | (simp [fits, retV, *]; done) | (simp [fits, retV, *] <;> (intros; omega)) | exact congrArg Value.bool (fits_del_ok c9 (by omega) hz).symm, Pre.ex (.cons .refl)⟩
  · skip
    refine t_skip ?_
    refine e_next ?_
    refine t_seq ?_
    refine t_seq ?_
    refine t_region ?_
    refine l_op rfl (o_val rfl rfl (r_eq rfl rfl rfl) ?_)
    refine l_op rfl (o_val rfl rfl (r_assign rfl rfl) ?_)
    refine l_nil ?_
    refine e_next ?_
    refine t_dec rfl (fun c9 => ?_) (fun c9 => ?_)
    · skip
      refine t_exit ?_
      refine e_pass_exit ?_
      refine e_pass_exit ?_
      refine e_block_on rfl ?_
      refine e_pass_exit ?_
      refine e_block_here ?_
      refine e_next ?_
      refine t_seq ?_
      refine t_region ?_
      refine l_op rfl (o_val rfl rfl (r_fieldAddr (k := 37) rfl rfl Try.underlying46 rfl Try.sizeOf44 rfl rfl) ?_)
      refine l_op rfl (o_val rfl rfl (r_load (v := .slice r.pa r.pn r.pc) rfl Try.isAgg44 rfl List.mem_cons_self rfl) ?_)
      refine l_op rfl (o_val rfl rfl (r_len rfl rfl Try.underlying44) ?_)
      refine l_op rfl (o_val rfl rfl (r_gt rfl rfl rfl) ?_)
      refine l_nil ?_
      refine e_next ?_
      refine t_dec rfl (fun c35 => ?_) (fun c35 => ?_)
      · skip
        refine t_seq ?_
        refine t_region ?_
        refine l_op rfl (o_val rfl rfl (r_assign rfl rfl) ?_)
        refine l_nil ?_
        refine e_next ?_
        refine t_ret ?_
        refine e_block_ret ?_
        refine e_pass_ret ?_
        refine e_block_ret ?_
        refine e_pass_ret ?_
        exact e_ret rfl (.tmp rfl .nil) ⟨by first | (simp [fits, retV, *]; done) | (simp [fits, retV, *] <;> (intros; omega)) | exact congrArg Value.bool (fits_del_ok c9 (by omega) hz).symm, Pre.ex (.cons .refl)⟩
      · skip
        refine t_skip ?_
        refine e_block _ ?_
        refine e_next ?_
        refine t_seq ?_
        refine t_seq ?_
        refine t_region ?_
        refine l_op rfl (o_val rfl rfl (r_fieldAddr (k := 37) rfl rfl Try.underlying46 rfl Try.sizeOf44 rfl rfl) ?_)
        refine l_op rfl (o_val rfl rfl (r_load (v := .slice r.pa r.pn r.pc) rfl Try.isAgg44 rfl List.mem_cons_self rfl) ?_)
        refine l_op rfl (o_call rfl rfl rfl Try.call31 rfl (size_c (fun p hp => (List.mem_cons_of_mem _ (hD _ hp))) hs) ?_)
        rintro _ _ ⟨rfl, X6, rfl⟩
        obtain ⟨z, e, hze, hz⟩ : ∃ z e : Int, sizeV ps = .tuple #[.int .i64 z, .int .i64 e] ∧ ((recSize ps).isSome = decide (e = 0)) := sizeV_parts ps
        rw [hze]
        refine l_op rfl (o_val rfl rfl (r_move rfl rfl) ?_)
        refine l_op rfl (o_val rfl rfl (r_extract (v := .int .i64 (z)) rfl rfl rfl) ?_)
        refine l_op rfl (o_val rfl rfl (r_extract (v := .int .i64 (e)) rfl rfl rfl) ?_)
        refine l_op rfl (o_val rfl rfl (r_assign rfl rfl) ?_)
        refine l_op rfl (o_val rfl rfl (r_assign rfl rfl) ?_)
        refine l_nil ?_
        refine e_next ?_
        refine t_cut (fun aa ww => Sl 54 [(2, .bool (((decide (r.site = 0) && isPath r.path) && decide (e = 0))))] aa ∧ Holds E (X6 ++ ((b1, .cells (encRec r).toArray 46 (0, 0)) :: H)) ww) ?_ ?_
        · skip
          refine t_region ?_
          refine l_op rfl (o_val rfl rfl (r_fieldAddr (k := 35) rfl rfl Try.underlying46 rfl Try.sizeOf3 rfl rfl) ?_)
          refine l_op rfl (o_val rfl rfl (r_load (v := .int .i64 (r.site)) rfl Try.isAgg3 rfl (List.mem_append_right _ List.mem_cons_self) rfl) ?_)
          refine l_op rfl (o_val rfl rfl (r_eq rfl rfl rfl) ?_)
          refine l_op rfl (o_val rfl rfl (r_move rfl rfl) ?_)
          refine t_bool (decide (r.site = 0)) (fun hb7 => ?_) (fun hb7 => ?_)
          · skip
            have phb7 := of_decide_eq_true hb7
            refine l_yesh rfl rfl rfl hb7 (o_val rfl rfl (r_fieldAddr (k := 36) rfl rfl Try.underlying46 rfl Try.sizeOf9 rfl rfl) ?_)
            refine l_yesh rfl rfl rfl hb7 (o_val rfl rfl (r_load (v := .string r.path) rfl Try.isAgg9 rfl (List.mem_append_right _ List.mem_cons_self) rfl) ?_)
            refine l_yesh rfl rfl rfl hb7 (o_call rfl rfl rfl Try.call72 rfl (isPath_c r.path) ?_)
            rintro _ _ ⟨rfl, he⟩
            rw [he]
            clear he
            refine l_op rfl (o_val rfl rfl (r_pickth rfl rfl hb7 rfl) ?_)
            refine l_op rfl (o_val rfl rfl (r_move rfl rfl) ?_)
            refine t_bool (isPath r.path) (fun hb8 => ?_) (fun hb8 => ?_)
            · skip
              refine l_yesh rfl rfl rfl hb8 (o_val rfl rfl (r_move rfl rfl) ?_)
              refine l_yesh rfl rfl rfl hb8 (o_val rfl rfl (r_eq rfl rfl rfl) ?_)
              refine l_op rfl (o_val rfl rfl (r_pickth rfl rfl hb8 rfl) ?_)
              refine l_op rfl (o_val rfl rfl (r_assign rfl rfl) ?_)
              refine l_nil ?_
              refine Then.slots (.cons (t := 2) rfl .nil) ?_
              intro aa ww hL hH
              exact ⟨hL.sub (.eq (t := 2) rfl (by first | (simp [hb7, hb8]; done) | (simp only [hb7, hb8, Bool.true_and, Bool.false_and, Bool.true_or, Bool.false_or, Bool.and_true, Bool.and_false]; done)) .nil), hH.hs (.seg .here (.cell .head .all))⟩
            · skip
              refine l_noh rfl rfl rfl hb8 rfl rfl ?_
              refine l_noh rfl rfl rfl hb8 rfl rfl ?_
              refine l_op rfl (o_val rfl rfl (r_pickfh rfl rfl hb8 rfl) ?_)
              refine l_op rfl (o_val rfl rfl (r_assign rfl rfl) ?_)
              refine l_nil ?_
              refine Then.slots (.cons (t := 2) rfl .nil) ?_
              intro aa ww hL hH
              exact ⟨hL.sub (.eq (t := 2) rfl (by first | (simp [hb7, hb8]; done) | (simp only [hb7, hb8, Bool.true_and, Bool.false_and, Bool.true_or, Bool.false_or, Bool.and_true, Bool.and_false]; done)) .nil), hH.hs (.seg .here (.cell .head .all))⟩
          · skip
            have phb7 := of_decide_eq_false hb7
            refine l_noh rfl rfl rfl hb7 rfl rfl ?_
            refine l_noh rfl rfl rfl hb7 rfl rfl ?_
            refine l_noh rfl rfl rfl hb7 rfl rfl ?_
            refine l_op rfl (o_val rfl rfl (r_pickfh rfl rfl hb7 rfl) ?_)
            refine l_op rfl (o_val rfl rfl (r_move rfl rfl) ?_)
            refine l_no rfl rfl rfl rfl rfl rfl ?_
            refine l_no rfl rfl rfl rfl rfl rfl ?_
            refine l_op rfl (o_val rfl rfl (r_pickf rfl rfl rfl) ?_)
            refine l_op rfl (o_val rfl rfl (r_assign rfl rfl) ?_)
            refine l_nil ?_
            refine Then.slots (.cons (t := 2) rfl .nil) ?_
            intro aa ww hL hH
            exact ⟨hL.sub (.eq (t := 2) rfl (by first | (simp [hb7]; done) | (simp only [hb7, Bool.true_and, Bool.false_and, Bool.true_or, Bool.false_or, Bool.and_true, Bool.and_false]; done)) .nil), hH.hs (.seg .here (.cell .head .all))⟩
        rintro aa ww ⟨hL, hH⟩
        refine Then.run hL hH ?_
        clear hL hH aa ww
        refine t_ret ?_
        refine e_pass_ret ?_
        refine e_block_ret ?_
        refine e_pass_ret ?_
        exact e_ret rfl (.tmp rfl .nil) ⟨by first | (simp [fits, retV, *]; done) | (simp [fits, retV, *] <;> (intros; omega)) | exact congrArg Value.bool (fits_del_ok c9 (by omega) hz).symm, Pre.ex (.app (.cons .refl))⟩
    · skip
      refine t_skip ?_
      refine e_next ?_
      refine t_seq ?_
      refine t_region ?_
      refine l_op rfl (o_val rfl rfl (r_eq rfl rfl rfl) ?_)
      refine l_op rfl (o_val rfl rfl (r_assign rfl rfl) ?_)
      refine l_nil ?_
      refine e_next ?_
      refine t_dec rfl (fun c11 => ?_) (fun c11 => ?_)
      · skip
        refine t_exit ?_
        refine e_pass_exit ?_
        refine e_block_on rfl ?_
        refine e_pass_exit ?_
        refine e_block_on rfl ?_
        refine e_pass_exit ?_
        refine e_block_here ?_
        refine e_next ?_
        refine t_seq ?_
        refine t_seq ?_
        refine t_region ?_
        refine l_op rfl (o_val rfl rfl (r_fieldAddr (k := 37) rfl rfl Try.underlying46 rfl Try.sizeOf44 rfl rfl) ?_)
        refine l_op rfl (o_val rfl rfl (r_load (v := .slice r.pa r.pn r.pc) rfl Try.isAgg44 rfl List.mem_cons_self rfl) ?_)
        refine l_op rfl (o_call rfl rfl rfl Try.call31 rfl (size_c (fun p hp => (List.mem_cons_of_mem _ (hD _ hp))) hs) ?_)
        rintro _ _ ⟨rfl, X9, rfl⟩
        obtain ⟨z, e, hze, hz⟩ : ∃ z e : Int, sizeV ps = .tuple #[.int .i64 z, .int .i64 e] ∧ ((recSize ps).isSome = decide (e = 0)) := sizeV_parts ps
        rw [hze]
        refine l_op rfl (o_val rfl rfl (r_move rfl rfl) ?_)
        refine l_op rfl (o_val rfl rfl (r_extract (v := .int .i64 (z)) rfl rfl rfl) ?_)
        refine l_op rfl (o_val rfl rfl (r_extract (v := .int .i64 (e)) rfl rfl rfl) ?_)
        refine l_op rfl (o_val rfl rfl (r_assign rfl rfl) ?_)
        refine l_op rfl (o_val rfl rfl (r_assign rfl rfl) ?_)
        refine l_nil ?_
        refine e_next ?_
        refine t_cut (fun aa ww => Sl 54 [(2, .bool (((decide (r.site = 0) && isPath r.path) && decide (e = 0))))] aa ∧ Holds E (X9 ++ ((b1, .cells (encRec r).toArray 46 (0, 0)) :: H)) ww) ?_ ?_
        · skip
          refine t_region ?_
          refine l_op rfl (o_val rfl rfl (r_fieldAddr (k := 35) rfl rfl Try.underlying46 rfl Try.sizeOf3 rfl rfl) ?_)
          refine l_op rfl (o_val rfl rfl (r_load (v := .int .i64 (r.site)) rfl Try.isAgg3 rfl (List.mem_append_right _ List.mem_cons_self) rfl) ?_)
          refine l_op rfl (o_val rfl rfl (r_eq rfl rfl rfl) ?_)
          refine l_op rfl (o_val rfl rfl (r_move rfl rfl) ?_)
          refine t_bool (decide (r.site = 0)) (fun hb10 => ?_) (fun hb10 => ?_)
          · skip
            have phb10 := of_decide_eq_true hb10
            refine l_yesh rfl rfl rfl hb10 (o_val rfl rfl (r_fieldAddr (k := 36) rfl rfl Try.underlying46 rfl Try.sizeOf9 rfl rfl) ?_)
            refine l_yesh rfl rfl rfl hb10 (o_val rfl rfl (r_load (v := .string r.path) rfl Try.isAgg9 rfl (List.mem_append_right _ List.mem_cons_self) rfl) ?_)
            refine l_yesh rfl rfl rfl hb10 (o_call rfl rfl rfl Try.call72 rfl (isPath_c r.path) ?_)
            rintro _ _ ⟨rfl, he⟩
            rw [he]
            clear he
            refine l_op rfl (o_val rfl rfl (r_pickth rfl rfl hb10 rfl) ?_)
            refine l_op rfl (o_val rfl rfl (r_move rfl rfl) ?_)
            refine t_bool (isPath r.path) (fun hb11 => ?_) (fun hb11 => ?_)
            · skip
              refine l_yesh rfl rfl rfl hb11 (o_val rfl rfl (r_move rfl rfl) ?_)
              refine l_yesh rfl rfl rfl hb11 (o_val rfl rfl (r_eq rfl rfl rfl) ?_)
              refine l_op rfl (o_val rfl rfl (r_pickth rfl rfl hb11 rfl) ?_)
              refine l_op rfl (o_val rfl rfl (r_assign rfl rfl) ?_)
              refine l_nil ?_
              refine Then.slots (.cons (t := 2) rfl .nil) ?_
              intro aa ww hL hH
              exact ⟨hL.sub (.eq (t := 2) rfl (by first | (simp [hb10, hb11]; done) | (simp only [hb10, hb11, Bool.true_and, Bool.false_and, Bool.true_or, Bool.false_or, Bool.and_true, Bool.and_false]; done)) .nil), hH.hs (.seg .here (.cell .head .all))⟩
            · skip
              refine l_noh rfl rfl rfl hb11 rfl rfl ?_
              refine l_noh rfl rfl rfl hb11 rfl rfl ?_
              refine l_op rfl (o_val rfl rfl (r_pickfh rfl rfl hb11 rfl) ?_)
              refine l_op rfl (o_val rfl rfl (r_assign rfl rfl) ?_)
              refine l_nil ?_
              refine Then.slots (.cons (t := 2) rfl .nil) ?_
              intro aa ww hL hH
              exact ⟨hL.sub (.eq (t := 2) rfl (by first | (simp [hb10, hb11]; done) | (simp only [hb10, hb11, Bool.true_and, Bool.false_and, Bool.true_or, Bool.false_or, Bool.and_true, Bool.and_false]; done)) .nil), hH.hs (.seg .here (.cell .head .all))⟩
          · skip
            have phb10 := of_decide_eq_false hb10
            refine l_noh rfl rfl rfl hb10 rfl rfl ?_
            refine l_noh rfl rfl rfl hb10 rfl rfl ?_
            refine l_noh rfl rfl rfl hb10 rfl rfl ?_
            refine l_op rfl (o_val rfl rfl (r_pickfh rfl rfl hb10 rfl) ?_)
            refine l_op rfl (o_val rfl rfl (r_move rfl rfl) ?_)
            refine l_no rfl rfl rfl rfl rfl rfl ?_
            refine l_no rfl rfl rfl rfl rfl rfl ?_
            refine l_op rfl (o_val rfl rfl (r_pickf rfl rfl rfl) ?_)
            refine l_op rfl (o_val rfl rfl (r_assign rfl rfl) ?_)
            refine l_nil ?_
            refine Then.slots (.cons (t := 2) rfl .nil) ?_
            intro aa ww hL hH
            exact ⟨hL.sub (.eq (t := 2) rfl (by first | (simp [hb10]; done) | (simp only [hb10, Bool.true_and, Bool.false_and, Bool.true_or, Bool.false_or, Bool.and_true, Bool.and_false]; done)) .nil), hH.hs (.seg .here (.cell .head .all))⟩
        rintro aa ww ⟨hL, hH⟩
        refine Then.run hL hH ?_
        clear hL hH aa ww
        refine t_ret ?_
        refine e_pass_ret ?_
        refine e_block_ret ?_
        refine e_pass_ret ?_
        exact e_ret rfl (.tmp rfl .nil) ⟨by first | (simp [fits, retV, *]; done) | (simp [fits, retV, *] <;> (intros; omega)) | exact congrArg Value.bool (fits_del_ok c9 (by omega) hz).symm, Pre.ex (.app (.cons .refl))⟩
      · skip
        refine t_skip ?_
        refine e_next ?_
        refine t_exit ?_
        refine e_block_on rfl ?_
        refine e_pass_exit ?_
        refine e_block_on rfl ?_
        refine e_pass_exit ?_
        refine e_block_on rfl ?_
        refine e_pass_exit ?_
        refine e_block_here ?_
        refine e_next ?_
        refine t_seq ?_
        refine t_region ?_
        refine l_op rfl (o_val rfl rfl (r_assign rfl rfl) ?_)
        refine l_nil ?_
        refine e_next ?_
        refine t_ret ?_
        exact e_ret rfl (.tmp rfl .nil) ⟨by first | (simp [fits, retV, *]; done) | (simp [fits, retV, *] <;> (intros; omega)) | exact congrArg Value.bool (fits_del_ok c9 (by omega) hz).symm, Pre.ex (.cons .refl)⟩

set_option maxRecDepth 100000 in
theorem check_c {E : Env} {H D : Heap} (hD : ∀ p, p ∈ D → p ∈ H) {r : Rec} {ps : List Piece} (hs : SliceAt D encPiece 33 r.pa r.pn r.pc ps) :
    Fn Try.prog 34 [.agg (encRec r).toArray] E H (fun v H2 => v = .int .i64 (recCheck r ps) ∧ ∃ X, H2 = X ++ H) := by
  refine Fn.of_body (N := 24) Try.func34 rfl rfl rfl ?_
  refine t_seq ?_
  refine t_region ?_
  refine l_op rfl (o_box rfl rfl rfl rfl rfl ?_)
  intro b1
  refine l_op rfl (o_val rfl rfl (r_assign rfl rfl) ?_)
  refine l_nil ?_
  refine e_next ?_
  refine t_seq ?_
  refine t_seq ?_
  refine t_region ?_
  refine l_op rfl (o_val rfl rfl (r_fieldAddr (k := 0) rfl rfl Try.underlying46 rfl Try.sizeOf3 rfl rfl) ?_)
  refine l_op rfl (o_val rfl rfl (r_load (v := .int .i64 (r.seq)) rfl Try.isAgg3 rfl List.mem_cons_self rfl) ?_)
  refine l_op rfl (o_val rfl rfl (r_fieldAddr (k := 1) rfl rfl Try.underlying46 rfl Try.sizeOf3 rfl rfl) ?_)
  refine l_op rfl (o_val rfl rfl (r_load (v := .int .i64 (r.epoch)) rfl Try.isAgg3 rfl List.mem_cons_self rfl) ?_)
  refine l_op rfl (o_val rfl rfl (r_min rfl rfl rfl) ?_)
  refine l_op rfl (o_val rfl rfl (r_lt rfl rfl rfl) ?_)
  refine l_op rfl (o_val rfl rfl (r_move rfl rfl) ?_)
  refine t_bool (decide ((min (r.seq) (r.epoch)) < 1)) (fun hb2 => ?_) (fun hb2 => ?_)
  · skip
    have phb2 := of_decide_eq_true hb2
    refine l_noh rfl rfl rfl hb2 rfl rfl ?_
    refine l_noh rfl rfl rfl hb2 rfl rfl ?_
    refine l_noh rfl rfl rfl hb2 rfl rfl ?_
    refine l_op rfl (o_val rfl rfl (r_pickth rfl rfl hb2 rfl) ?_)
    refine l_op rfl (o_val rfl rfl (r_move rfl rfl) ?_)
    refine l_no rfl rfl rfl rfl rfl rfl ?_
    refine l_no rfl rfl rfl rfl rfl rfl ?_
    refine l_no rfl rfl rfl rfl rfl rfl ?_
    refine l_op rfl (o_val rfl rfl (r_pickt rfl rfl rfl) ?_)
    refine l_op rfl (o_val rfl rfl (r_move rfl rfl) ?_)
    refine l_no rfl rfl rfl rfl rfl rfl ?_
    refine l_no rfl rfl rfl rfl rfl rfl ?_
    refine l_no rfl rfl rfl rfl rfl rfl ?_
    refine l_op rfl (o_val rfl rfl (r_pickt rfl rfl rfl) ?_)
    refine l_nil ?_
    refine e_next ?_
    refine t_true rfl ?_
    refine t_seq ?_
    refine t_region ?_
    refine l_op rfl (o_val rfl rfl (r_assign rfl rfl) ?_)
    refine l_nil ?_
    refine Then.slots (.cons (t := 2) rfl .nil) ?_
    refine e_next ?_
    refine t_ret ?_
    refine e_pass_ret ?_
    exact e_ret rfl (.tmp rfl .nil) ⟨by simp [recCheck, recOk, retV, *] <;> (intros; omega), Pre.ex (.cons .refl)⟩
  · skip
    have phb2 := of_decide_eq_false hb2
    refine l_yesh rfl rfl rfl hb2 (o_val rfl rfl (r_fieldAddr (k := 0) rfl rfl Try.underlying46 rfl Try.sizeOf3 rfl rfl) ?_)
    refine l_yesh rfl rfl rfl hb2 (o_val rfl rfl (r_load (v := .int .i64 (r.seq)) rfl Try.isAgg3 rfl List.mem_cons_self rfl) ?_)
    refine l_yesh rfl rfl rfl hb2 (o_val rfl rfl (r_gt rfl rfl rfl) ?_)
    refine l_op rfl (o_val rfl rfl (r_pickfh rfl rfl hb2 rfl) ?_)
    refine l_op rfl (o_val rfl rfl (r_move rfl rfl) ?_)
    refine t_bool (decide (r.seq > 1073741824)) (fun hb3 => ?_) (fun hb3 => ?_)
    · skip
      have phb3 := of_decide_eq_true hb3
      refine l_noh rfl rfl rfl hb3 rfl rfl ?_
      refine l_noh rfl rfl rfl hb3 rfl rfl ?_
      refine l_noh rfl rfl rfl hb3 rfl rfl ?_
      refine l_op rfl (o_val rfl rfl (r_pickth rfl rfl hb3 rfl) ?_)
      refine l_op rfl (o_val rfl rfl (r_move rfl rfl) ?_)
      refine l_no rfl rfl rfl rfl rfl rfl ?_
      refine l_no rfl rfl rfl rfl rfl rfl ?_
      refine l_no rfl rfl rfl rfl rfl rfl ?_
      refine l_op rfl (o_val rfl rfl (r_pickt rfl rfl rfl) ?_)
      refine l_nil ?_
      refine e_next ?_
      refine t_true rfl ?_
      refine t_seq ?_
      refine t_region ?_
      refine l_op rfl (o_val rfl rfl (r_assign rfl rfl) ?_)
      refine l_nil ?_
      refine Then.slots (.cons (t := 2) rfl .nil) ?_
      refine e_next ?_
      refine t_ret ?_
      refine e_pass_ret ?_
      exact e_ret rfl (.tmp rfl .nil) ⟨by simp [recCheck, recOk, retV, *] <;> (intros; omega), Pre.ex (.cons .refl)⟩
    · skip
      have phb3 := of_decide_eq_false hb3
      refine l_yesh rfl rfl rfl hb3 (o_val rfl rfl (r_fieldAddr (k := 1) rfl rfl Try.underlying46 rfl Try.sizeOf3 rfl rfl) ?_)
      refine l_yesh rfl rfl rfl hb3 (o_val rfl rfl (r_load (v := .int .i64 (r.epoch)) rfl Try.isAgg3 rfl List.mem_cons_self rfl) ?_)
      refine l_yesh rfl rfl rfl hb3 (o_val rfl rfl (r_gt rfl rfl rfl) ?_)
      refine l_op rfl (o_val rfl rfl (r_pickfh rfl rfl hb3 rfl) ?_)
      refine l_op rfl (o_val rfl rfl (r_move rfl rfl) ?_)
      refine t_bool (decide (r.epoch > 1073741824)) (fun hb4 => ?_) (fun hb4 => ?_)
      · skip
        have phb4 := of_decide_eq_true hb4
        refine l_noh rfl rfl rfl hb4 rfl rfl ?_
        refine l_noh rfl rfl rfl hb4 rfl rfl ?_
        refine l_noh rfl rfl rfl hb4 rfl rfl ?_
        refine l_op rfl (o_val rfl rfl (r_pickth rfl rfl hb4 rfl) ?_)
        refine l_nil ?_
        refine e_next ?_
        refine t_true rfl ?_
        refine t_seq ?_
        refine t_region ?_
        refine l_op rfl (o_val rfl rfl (r_assign rfl rfl) ?_)
        refine l_nil ?_
        refine Then.slots (.cons (t := 2) rfl .nil) ?_
        refine e_next ?_
        refine t_ret ?_
        refine e_pass_ret ?_
        exact e_ret rfl (.tmp rfl .nil) ⟨by simp [recCheck, recOk, retV, *] <;> (intros; omega), Pre.ex (.cons .refl)⟩
      · skip
        have phb4 := of_decide_eq_false hb4
        refine l_yesh rfl rfl rfl hb4 (o_val rfl rfl (r_loadAgg rfl Try.isAgg46 Try.sizeOf46 rfl List.mem_cons_self (At.self _) rfl) ?_)
        refine l_yesh rfl rfl rfl hb4 (o_call rfl rfl rfl Try.call55 rfl (fits_c (fun p hp => (List.mem_cons_of_mem _ (hD _ hp))) hs) ?_)
        rintro _ _ ⟨rfl, X5, rfl⟩
        refine l_yesh rfl rfl rfl hb4 (o_val rfl rfl (r_not rfl rfl) ?_)
        refine l_op rfl (o_val rfl rfl (r_pickfh rfl rfl hb4 rfl) ?_)
        refine l_nil ?_
        refine e_next ?_
        refine t_cond rfl (fun c23 => ?_) (fun c23 => ?_)
        · skip
          try simp only [Bool.or_eq_true, Bool.and_eq_true, decide_eq_true_eq, Bool.not_eq_true', decide_eq_false_iff_not] at c23
          refine t_seq ?_
          refine t_region ?_
          refine l_op rfl (o_val rfl rfl (r_assign rfl rfl) ?_)
          refine l_nil ?_
          refine Then.slots (.cons (t := 2) rfl .nil) ?_
          refine e_next ?_
          refine t_ret ?_
          refine e_pass_ret ?_
          exact e_ret rfl (.tmp rfl .nil) ⟨by simp [recCheck, recOk, retV, *] <;> (intros; omega), Pre.ex (.app (.cons .refl))⟩
        · skip
          try simp only [Bool.or_eq_false_iff, Bool.and_eq_false_iff, decide_eq_false_iff_not, Bool.not_eq_false', decide_eq_true_eq] at c23
          refine t_skip ?_
          refine e_next ?_
          refine t_seq ?_
          refine t_region ?_
          refine l_op rfl (o_val rfl rfl (r_assign rfl rfl) ?_)
          refine l_nil ?_
          refine Then.slots (.cons (t := 2) rfl .nil) ?_
          refine e_next ?_
          refine t_ret ?_
          exact e_ret rfl (.tmp rfl .nil) ⟨by simp [recCheck, recOk, retV, *] <;> (intros; omega), Pre.ex (.app (.cons .refl))⟩

set_option maxRecDepth 100000 in
theorem clone_c {E : Env} {H D : Heap} (hD : ∀ p, p ∈ D → p ∈ H) {a : Option Addr} {n c : Nat} {ps : List Piece} (hs : SliceAt D encPiece 33 a n c ps) (hfew : n ≤ 4096) :
    Fn Try.prog 50 [.slice a n c] E H (fun v H2 => ∃ a2 c2 X, v = .slice a2 n c2 ∧ H2 = X ++ H ∧ SliceAt (X ++ D) encPiece 33 a2 n c2 ps) := by
  have hln := hs.len
  refine Fn.of_body (N := 8) Try.func50 rfl rfl rfl ?_
  refine t_seq ?_
  refine t_region ?_
  refine l_op rfl (o_val rfl rfl (r_assign rfl rfl) ?_)
  refine l_nil ?_
  refine e_next ?_
  refine t_seq ?_
  refine t_seq ?_
  refine t_region ?_
  refine l_op rfl (o_val rfl rfl (r_move rfl rfl) ?_)
  refine l_op rfl (o_val rfl rfl (r_eqv rfl rfl rfl rfl rfl (q_slice_nil Try.underlying44)) ?_)
  refine l_nil ?_
  refine e_next ?_
  refine t_cond rfl (fun c4 => ?_) (fun c4 => ?_)
  · skip
    try simp only [Bool.or_eq_true, Bool.and_eq_true, decide_eq_true_eq, Bool.not_eq_true', decide_eq_false_iff_not] at c4
    refine t_seq ?_
    refine t_region ?_
    refine l_op rfl (o_val rfl rfl (r_assign rfl rfl) ?_)
    refine l_nil ?_
    refine e_next ?_
    refine t_ret ?_
    refine e_pass_ret ?_
    exact e_ret rfl (.tmp rfl .nil) (clone_nil hs c4)
  · skip
    try simp only [Bool.or_eq_false_iff, Bool.and_eq_false_iff, decide_eq_false_iff_not, Bool.not_eq_false', decide_eq_true_eq] at c4
    refine t_skip ?_
    refine e_next ?_
    refine t_seq ?_
    refine t_region ?_
    refine l_op rfl (o_slice0 rfl rfl rfl Try.underlying44 Try.sizeOf66 ?_)
    intro b1
    refine l_op rfl (o_val rfl rfl (r_move rfl rfl) ?_)
    refine l_op rfl (o_appendS (enc := encPiece) (xs := []) (l := ps) rfl rfl rfl rfl rfl Try.underlying44 Try.type66 rfl rfl rfl rfl (fun _ => rfl) (fun _ => rfl) Own.empty .here (SliceAt.mono hs (fun p hp => (List.mem_cons_of_mem _ (hD _ hp)))) (by show (_ + _) * 40 ≤ _; (try simp only [List.length_nil, List.length_cons, List.length_append, List.length_map, List.length_take]); omega) (by (try simp only [List.length_nil, List.length_cons, List.length_append, List.length_map, List.length_take]); omega) ?_)
    intro v2 X2 ho2
    refine l_op rfl (o_val rfl rfl (r_assign rfl rfl) ?_)
    refine l_nil ?_
    refine e_next ?_
    refine t_ret ?_
    exact e_ret rfl (.tmp rfl .nil) (clone_post (D := D) hln ho2)

set_option maxRecDepth 100000 in
theorem own_c {E : Env} {H D : Heap} (hD : ∀ p, p ∈ D → p ∈ H) {f : File} {k : ByteArray} {l : FileL} (hf : FRep D k f l) :
    Fn Try.prog 26 [.agg (encFile f).toArray] E H (fun v H2 => ∃ f2 X, v = .agg (encFile f2).toArray ∧ H2 = X ++ H ∧ FRep (X ++ D) k f2 l) := by
  have hs := hf.at_
  have hln := hs.len
  have hfew := hf.few
  refine Fn.of_body (N := 8) Try.func26 rfl rfl rfl ?_
  refine t_seq ?_
  refine t_region ?_
  refine l_op rfl (o_box rfl rfl rfl rfl rfl ?_)
  intro b1
  refine l_op rfl (o_alloc rfl rfl rfl Try.zeroValue48 rfl ?_)
  intro b2
  refine l_nil ?_
  refine e_next ?_
  refine t_seq ?_
  refine t_region ?_
  refine l_op rfl (o_val rfl rfl (r_fieldAddr (k := 3) rfl rfl Try.underlying48 rfl Try.sizeOf44 rfl rfl) ?_)
  refine l_op rfl (o_val rfl rfl (r_load (v := .slice f.pa f.pn f.pc) rfl Try.isAgg44 rfl (List.mem_cons_of_mem _ List.mem_cons_self) rfl) ?_)
  refine l_op rfl (o_call rfl rfl rfl Try.call50 rfl (clone_c (ps := l.ps) (fun p hp => (List.mem_cons_of_mem _ (List.mem_cons_of_mem _ (hD _ hp)))) hs (by omega)) ?_)
  rintro _ _ ⟨a3, c3, X3, rfl, rfl, hs3⟩
  refine l_op rfl (o_val rfl rfl (r_fieldAddr (k := 3) rfl rfl Try.underlying48 rfl Try.sizeOf44 rfl rfl) ?_)
  refine l_op rfl (o_store rfl rfl rfl rfl rfl Try.sizeOf44 (.app (.tail .head)) rfl ?_)
  refine Then.of_eq (H2 := ((b1, .cells (encFile ({ f with pa := a3, pn := f.pn, pc := c3 } : File)).toArray 48 (0, 0)) :: (X3 ++ ((b2, .cells (encFile File.zero).toArray 48 (0, 0)) :: H)))) rfl ?_
  refine l_nil ?_
  refine e_next ?_
  refine t_seq ?_
  refine t_region ?_
  refine l_op rfl (o_val rfl rfl (r_loadAgg rfl Try.isAgg48 Try.sizeOf48 rfl List.mem_cons_self (At.self _) rfl) ?_)
  refine l_op rfl (o_storeAgg (ys := encFile ({ f with pa := a3, pn := f.pn, pc := c3 } : File)) rfl rfl rfl rfl rfl Try.sizeOf48 (.tail (.app .head)) rfl ?_)
  refine l_nil ?_
  refine e_next ?_
  refine t_ret ?_
  exact e_ret rfl (.agg rfl Try.isAgg48 Try.sizeOf48 List.mem_cons_self (At.self _) rfl .nil) ⟨{ f with pa := a3, pc := c3 }, _, rfl, (PreL.eq (.cons (.cons (.app .refl)))), hf.path, hf.size, hf.seq, hs3.mono (ds_app (fun p hp => (List.mem_append_left _ (List.mem_cons_of_mem _ (List.mem_cons_of_mem _ (List.mem_append_left _ hp))))) (fun p hp => List.mem_append_right _ hp)), hf.tot⟩

set_option maxRecDepth 100000 in
theorem new_c {E : Env} {H : Heap} :
    Fn Try.prog 13 [] E H (fun v H2 => ∃ bn bm, v = .pointer (some ⟨bn, 0, none⟩) ∧ H2 = (bn, .cells ([.map (some bm)] : List Value).toArray 57 (0, 0)) :: (bm, .map #[] 0) :: H) := by
  refine Fn.of_body (N := 4) Try.func13 rfl rfl rfl ?_
  refine t_seq ?_
  refine t_region ?_
  refine l_op rfl (o_val rfl rfl (r_assign rfl rfl) ?_)
  refine l_nil ?_
  refine e_next ?_
  refine t_seq ?_
  refine t_region ?_
  refine l_op rfl (o_makeMap rfl rfl rfl ?_)
  intro b1
  refine l_op rfl (o_val rfl rfl (r_build (cells := [.map (some b1)]) rfl rfl (by kernel_rfl)) ?_)
  refine l_op rfl (o_box rfl rfl rfl rfl rfl ?_)
  intro b2
  refine l_op rfl (o_val rfl rfl (r_assign rfl rfl) ?_)
  refine l_nil ?_
  refine e_next ?_
  refine t_ret ?_
  exact e_ret rfl (.tmp rfl .nil) ⟨_, _, rfl, rfl⟩

set_option maxRecDepth 100000 in
theorem made_c {E : Env} {H D : Heap} (hD : ∀ p, p ∈ D → p ∈ H) {bn bm : Nat} (hbn : (bn, .cells ([.map (some bm)] : List Value).toArray 57 (0, 0)) ∈ D) :
    Fn Try.prog 24 [.pointer (some ⟨bn, 0, none⟩)] E H (fun v H2 => v = .bool true ∧ H2 = H) := by
  refine Fn.of_body (N := 12) Try.func24 rfl rfl rfl ?_
  refine t_seq ?_
  refine t_region ?_
  refine l_op rfl (o_val rfl rfl (r_assign rfl rfl) ?_)
  refine l_nil ?_
  refine e_next ?_
  refine t_seq ?_
  refine t_region ?_
  refine l_op rfl (o_val rfl rfl (r_move rfl rfl) ?_)
  refine l_op rfl (o_val rfl rfl (r_nev rfl rfl rfl rfl rfl (q_ptr_nil Try.underlying24)) ?_)
  refine l_op rfl (o_val rfl rfl (r_move rfl rfl) ?_)
  refine l_yes rfl rfl rfl (o_val rfl rfl (r_move rfl rfl) ?_)
  refine l_yes rfl rfl rfl (o_val rfl rfl (r_nilCheck rfl rfl) ?_)
  refine l_yes rfl rfl rfl (o_val rfl rfl (r_fieldAddr (k := 0) rfl rfl Try.underlying57 rfl Try.sizeOf55 rfl rfl) ?_)
  refine l_yes rfl rfl rfl (o_val rfl rfl (r_load (v := .map (some bm)) rfl Try.isAgg55 rfl ((fun p hp => (hD _ hp)) _ hbn) rfl) ?_)
  refine l_yes rfl rfl rfl (o_val rfl rfl (r_nev rfl rfl rfl rfl rfl (q_map_nil Try.underlying55)) ?_)
  refine l_op rfl (o_val rfl rfl (r_pickt rfl rfl rfl) ?_)
  refine l_op rfl (o_val rfl rfl (r_assign rfl rfl) ?_)
  refine l_nil ?_
  refine e_next ?_
  refine t_ret ?_
  exact e_ret rfl (.tmp rfl .nil) ⟨rfl, rfl⟩

set_option maxRecDepth 100000 in
theorem may_c {E : Env} {H D : Heap} (hD : ∀ p, p ∈ D → p ∈ H) {bn bm : Nat} (hbn : (bn, .cells ([.map (some bm)] : List Value).toArray 57 (0, 0)) ∈ D) {es : Array MapEntry} {c : Nat} {m : FMap} (him : IsMap es c fileV m) (hbm : (bm, .map es c) ∈ H) {r : Rec} {ps : List Piece} (hs : SliceAt D encPiece 33 r.pa r.pn r.pc ps) :
    Fn Try.prog 18 [.pointer (some ⟨bn, 0, none⟩), .agg (encRec r).toArray] E H (fun v H2 => v = .int .i64 (mayL (LM m) r ps) ∧ ∃ X, H2 = X ++ H) := by
  have hsz := him.size
  have hll := LM_length m
  have hgl := mget_LM m r.path
  refine Fn.of_body (N := 50) Try.func18 rfl rfl rfl ?_
  refine t_seq ?_
  refine t_region ?_
  refine l_op rfl (o_box rfl rfl rfl rfl rfl ?_)
  intro b1
  refine l_op rfl (o_val rfl rfl (r_assign rfl rfl) ?_)
  refine l_nil ?_
  refine e_next ?_
  refine t_seq ?_
  refine t_seq ?_
  refine t_region ?_
  refine l_op rfl (o_val rfl rfl (r_move rfl rfl) ?_)
  refine l_op rfl (o_call rfl rfl rfl Try.call24 rfl (made_c (fun p hp => (List.mem_cons_of_mem _ (hD _ hp))) hbn) ?_)
  rintro _ _ ⟨rfl, he⟩
  rw [he]
  clear he
  refine l_op rfl (o_val rfl rfl (r_not rfl rfl) ?_)
  refine l_nil ?_
  refine e_next ?_
  refine t_false rfl ?_
  refine t_skip ?_
  refine e_next ?_
  refine t_seq ?_
  refine t_seq ?_
  refine t_region ?_
  refine l_op rfl (o_val rfl rfl (r_loadAgg rfl Try.isAgg46 Try.sizeOf46 rfl List.mem_cons_self (At.self _) rfl) ?_)
  refine l_op rfl (o_call rfl rfl rfl Try.call34 rfl (check_c (r := r) (fun p hp => (List.mem_cons_of_mem _ (hD _ hp))) hs) ?_)
  rintro _ _ ⟨rfl, X2, rfl⟩
  refine l_op rfl (o_val rfl rfl (r_assign rfl rfl) ?_)
  refine l_nil ?_
  refine e_next ?_
  refine t_seq ?_
  refine t_region ?_
  refine l_op rfl (o_val rfl rfl (r_move rfl rfl) ?_)
  refine l_op rfl (o_val rfl rfl (r_ne rfl rfl rfl) ?_)
  refine l_nil ?_
  refine e_next ?_
  refine t_dec rfl (fun c14 => ?_) (fun c14 => ?_)
  · skip
    refine t_seq ?_
    refine t_region ?_
    refine l_op rfl (o_val rfl rfl (r_move rfl rfl) ?_)
    refine l_op rfl (o_val rfl rfl (r_assign rfl rfl) ?_)
    refine l_nil ?_
    refine e_next ?_
    refine t_ret ?_
    refine e_pass_ret ?_
    exact e_ret rfl (.tmp rfl .nil) ⟨congrArg (Value.int .i64) (may_bad c14).symm, Pre.ex (.app (.cons .refl))⟩
  · skip
    refine t_skip ?_
    refine e_next ?_
    refine t_seq ?_
    refine t_draw (n := 13) .all rfl (by kernel_rfl) ?_
    refine a_take (i := 0) rfl rfl rfl rfl (by kernel_rfl) (by kernel_rfl) (by kernel_rfl) (fun _ _ _ h => h) .all (r_move rfl rfl) ?_
    refine a_take (i := 1) rfl rfl rfl rfl (by kernel_rfl) (by kernel_rfl) (by kernel_rfl) (fun _ _ _ h => h) .all (r_nilCheck rfl rfl) ?_
    refine a_take (i := 2) rfl rfl rfl rfl (by kernel_rfl) (by kernel_rfl) (by kernel_rfl) (fun _ _ _ h => h) .all (r_fieldAddr (k := 0) rfl rfl Try.underlying57 rfl Try.sizeOf55 rfl rfl) ?_
    refine a_take (i := 3) rfl rfl rfl rfl (by kernel_rfl) (by kernel_rfl) (by kernel_rfl) (fun _ _ _ h => h) .all (r_load (v := .map (some bm)) rfl Try.isAgg55 rfl ((fun p hp => (List.mem_append_right _ (List.mem_cons_of_mem _ (hD _ hp)))) _ hbn) rfl) ?_
    refine a_take (i := 4) rfl rfl rfl rfl (by kernel_rfl) (by kernel_rfl) (by kernel_rfl) (fun _ _ _ h => h) .all (r_fieldAddr (k := 36) rfl rfl Try.underlying46 rfl Try.sizeOf9 rfl rfl) ?_
    refine a_take (i := 5) rfl rfl rfl rfl (by kernel_rfl) (by kernel_rfl) (by kernel_rfl) (fun _ _ _ h => h) .all (r_load (v := .string r.path) rfl Try.isAgg9 rfl (List.mem_append_right _ List.mem_cons_self) rfl) ?_
    refine a_take (i := 6) rfl rfl rfl rfl (by kernel_rfl) (by kernel_rfl) (by kernel_rfl) (fun _ _ _ h => h) .all (r_lookupZ (zx := FD.zero) rfl rfl rfl Try.underlying55 Try.underlying9 Try.zeroValue48 (List.mem_append_right _ (List.mem_cons_of_mem _ hbm)) him) ?_
    refine a_take (i := 7) rfl rfl rfl rfl (by kernel_rfl) (by kernel_rfl) (by kernel_rfl) (fun _ _ _ h => h) .all (r_move rfl rfl) ?_
    refine a_take (i := 8) rfl rfl rfl rfl (by kernel_rfl) (by kernel_rfl) (by kernel_rfl) (fun _ _ _ h => h) .all (r_extract (v := .agg (encFile ((mget m r.path).getD FD.zero).1).toArray) rfl rfl rfl) ?_
    refine a_take (i := 9) rfl rfl rfl rfl (by kernel_rfl) (by kernel_rfl) (by kernel_rfl) (fun _ _ _ h => h) .all (r_extract (v := .bool ((mget m r.path).isSome)) rfl rfl rfl) ?_
    refine a_one (i := 10) rfl rfl (by kernel_rfl) (o_alloc rfl rfl rfl Try.zeroValue48 rfl ?_)
    intro b3
    refine a_keep (.drop .all) ?_
    refine a_one (i := 11) rfl rfl (by kernel_rfl) (o_storeAgg (ys := encFile ((mget m r.path).getD FD.zero).1) rfl rfl rfl rfl rfl Try.sizeOf48 .head rfl ?_)
    refine a_keep (.drop .all) ?_
    refine a_take (i := 12) rfl rfl rfl rfl (by kernel_rfl) (by kernel_rfl) (by kernel_rfl) (fun _ _ _ h => h) (.drop .all) (r_assign rfl rfl) ?_
    refine a_done (by kernel_rfl) ?_
    refine e_next ?_
    refine t_seq ?_
    refine t_block ?_
    refine t_cut (fun aa ww => Sl 50 [(0, .pointer (some ⟨bn, 0, none⟩)), (3, .pointer (some ⟨b1, 0, none⟩)), (4, .int .i64 (0)), (7, .bool ((mget m r.path).isSome)), (26, .bool ((decide (r.kind = 3) && (!(mget m r.path).isSome))))] aa ∧ Holds E ((b3, .cells (encFile ((mget m r.path).getD FD.zero).1).toArray 48 (0, 0)) :: (X2 ++ ((b1, .cells (encRec r).toArray 46 (0, 0)) :: H))) ww) ?_ ?_
    · skip
      refine t_region ?_
      refine l_op rfl (o_val rfl rfl (r_fieldAddr (k := 34) rfl rfl Try.underlying46 rfl Try.sizeOf40 rfl rfl) ?_)
      refine l_op rfl (o_val rfl rfl (r_load (v := .int .i64 (r.kind)) rfl Try.isAgg40 rfl (List.mem_cons_of_mem _ (List.mem_append_right _ List.mem_cons_self)) rfl) ?_)
      refine l_op rfl (o_val rfl rfl (r_eq rfl rfl rfl) ?_)
      refine l_op rfl (o_val rfl rfl (r_move rfl rfl) ?_)
      refine t_bool (decide (r.kind = 3)) (fun hb4 => ?_) (fun hb4 => ?_)
      · skip
        have phb4 := of_decide_eq_true hb4
        refine l_yesh rfl rfl rfl hb4 (o_val rfl rfl (r_move rfl rfl) ?_)
        refine l_yesh rfl rfl rfl hb4 (o_val rfl rfl (r_not rfl rfl) ?_)
        refine l_op rfl (o_val rfl rfl (r_pickth rfl rfl hb4 rfl) ?_)
        refine l_op rfl (o_val rfl rfl (r_assign rfl rfl) ?_)
        refine l_nil ?_
        refine Then.slots (.cons (t := 0) rfl (.cons (t := 3) rfl (.cons (t := 4) rfl (.cons (t := 7) rfl (.cons (t := 26) rfl .nil))))) ?_
        intro aa ww hL hH
        exact ⟨hL.sub (.cons (t := 0) rfl (.cons (t := 3) rfl (.cons (t := 4) rfl (.cons (t := 7) rfl (.eq (t := 26) rfl (by first | (simp [hb4]; done) | (simp only [hb4, Bool.true_and, Bool.false_and, Bool.true_or, Bool.false_or, Bool.and_true, Bool.and_false]; done)) .nil))))), hH.hs (.cell .head (.seg .here (.cell .head .all)))⟩
      · skip
        have phb4 := of_decide_eq_false hb4
        refine l_noh rfl rfl rfl hb4 rfl rfl ?_
        refine l_noh rfl rfl rfl hb4 rfl rfl ?_
        refine l_op rfl (o_val rfl rfl (r_pickfh rfl rfl hb4 rfl) ?_)
        refine l_op rfl (o_val rfl rfl (r_assign rfl rfl) ?_)
        refine l_nil ?_
        refine Then.slots (.cons (t := 0) rfl (.cons (t := 3) rfl (.cons (t := 4) rfl (.cons (t := 7) rfl (.cons (t := 26) rfl .nil))))) ?_
        intro aa ww hL hH
        exact ⟨hL.sub (.cons (t := 0) rfl (.cons (t := 3) rfl (.cons (t := 4) rfl (.cons (t := 7) rfl (.eq (t := 26) rfl (by first | (simp [hb4]; done) | (simp only [hb4, Bool.true_and, Bool.false_and, Bool.true_or, Bool.false_or, Bool.and_true, Bool.and_false]; done)) .nil))))), hH.hs (.cell .head (.seg .here (.cell .head .all)))⟩
    rintro aa ww ⟨hL, hH⟩
    refine Then.run hL hH ?_
    clear hL hH aa ww
    refine t_cond rfl (fun c26 => ?_) (fun c26 => ?_)
    · skip
      try simp only [Bool.or_eq_true, Bool.and_eq_true, decide_eq_true_eq, Bool.not_eq_true', decide_eq_false_iff_not] at c26
      refine t_seq ?_
      refine t_region ?_
      refine l_op rfl (o_val rfl rfl (r_assign rfl rfl) ?_)
      refine l_nil ?_
      refine e_next ?_
      refine t_ret ?_
      refine e_block_ret ?_
      refine e_pass_ret ?_
      exact e_ret rfl (.tmp rfl .nil) ⟨congrArg (Value.int .i64) (may_150 c14 c26).symm, Pre.ex (.cons (.app (.cons .refl)))⟩
    · skip
      try simp only [Bool.or_eq_false_iff, Bool.and_eq_false_iff, decide_eq_false_iff_not, Bool.not_eq_false', decide_eq_true_eq] at c26
      refine t_cut (fun aa ww => Sl 50 [(4, .int .i64 (0)), (34, .bool (((decide (r.kind = 2) && (!(mget m r.path).isSome)) && decide ((es.size : Int) ≥ 1024))))] aa ∧ Holds E ((b3, .cells (encFile ((mget m r.path).getD FD.zero).1).toArray 48 (0, 0)) :: (X2 ++ ((b1, .cells (encRec r).toArray 46 (0, 0)) :: H))) ww) ?_ ?_
      · skip
        refine t_region ?_
        refine l_op rfl (o_val rfl rfl (r_fieldAddr (k := 34) rfl rfl Try.underlying46 rfl Try.sizeOf40 rfl rfl) ?_)
        refine l_op rfl (o_val rfl rfl (r_load (v := .int .i64 (r.kind)) rfl Try.isAgg40 rfl (List.mem_cons_of_mem _ (List.mem_append_right _ List.mem_cons_self)) rfl) ?_)
        refine l_op rfl (o_val rfl rfl (r_eq rfl rfl rfl) ?_)
        refine l_op rfl (o_val rfl rfl (r_move rfl rfl) ?_)
        refine t_bool (decide (r.kind = 2)) (fun hb5 => ?_) (fun hb5 => ?_)
        · skip
          have phb5 := of_decide_eq_true hb5
          refine l_yesh rfl rfl rfl hb5 (o_val rfl rfl (r_move rfl rfl) ?_)
          refine l_yesh rfl rfl rfl hb5 (o_val rfl rfl (r_not rfl rfl) ?_)
          refine l_op rfl (o_val rfl rfl (r_pickth rfl rfl hb5 rfl) ?_)
          refine l_op rfl (o_val rfl rfl (r_move rfl rfl) ?_)
          refine t_bool ((!(mget m r.path).isSome)) (fun hb6 => ?_) (fun hb6 => ?_)
          · skip
            refine l_yesh rfl rfl rfl hb6 (o_val rfl rfl (r_move rfl rfl) ?_)
            refine l_yesh rfl rfl rfl hb6 (o_val rfl rfl (r_nilCheck rfl rfl) ?_)
            refine l_yesh rfl rfl rfl hb6 (o_val rfl rfl (r_fieldAddr (k := 0) rfl rfl Try.underlying57 rfl Try.sizeOf55 rfl rfl) ?_)
            refine l_yesh rfl rfl rfl hb6 (o_val rfl rfl (r_load (v := .map (some bm)) rfl Try.isAgg55 rfl ((fun p hp => (List.mem_cons_of_mem _ (List.mem_append_right _ (List.mem_cons_of_mem _ (hD _ hp))))) _ hbn) rfl) ?_)
            refine l_yesh rfl rfl rfl hb6 (o_val rfl rfl (r_lenMap rfl rfl Try.underlying55 (List.mem_cons_of_mem _ (List.mem_append_right _ (List.mem_cons_of_mem _ hbm)))) ?_)
            refine l_yesh rfl rfl rfl hb6 (o_val rfl rfl (r_ge rfl rfl rfl) ?_)
            refine l_op rfl (o_val rfl rfl (r_pickth rfl rfl hb6 rfl) ?_)
            refine l_op rfl (o_val rfl rfl (r_assign rfl rfl) ?_)
            refine l_nil ?_
            intro aa ww hL hH
            exact ⟨hL.sub (.cons (t := 4) rfl (.eq (t := 34) rfl (by first | (simp [hb5, hb6]; done) | (simp only [hb5, hb6, Bool.true_and, Bool.false_and, Bool.true_or, Bool.false_or, Bool.and_true, Bool.and_false]; done)) .nil)), hH.hs (.cell .head (.seg .here (.cell .head .all)))⟩
          · skip
            refine l_noh rfl rfl rfl hb6 rfl rfl ?_
            refine l_noh rfl rfl rfl hb6 rfl rfl ?_
            refine l_noh rfl rfl rfl hb6 rfl rfl ?_
            refine l_noh rfl rfl rfl hb6 rfl rfl ?_
            refine l_noh rfl rfl rfl hb6 rfl rfl ?_
            refine l_noh rfl rfl rfl hb6 rfl rfl ?_
            refine l_op rfl (o_val rfl rfl (r_pickfh rfl rfl hb6 rfl) ?_)
            refine l_op rfl (o_val rfl rfl (r_assign rfl rfl) ?_)
            refine l_nil ?_
            intro aa ww hL hH
            exact ⟨hL.sub (.cons (t := 4) rfl (.eq (t := 34) rfl (by first | (simp [hb5, hb6]; done) | (simp only [hb5, hb6, Bool.true_and, Bool.false_and, Bool.true_or, Bool.false_or, Bool.and_true, Bool.and_false]; done)) .nil)), hH.hs (.cell .head (.seg .here (.cell .head .all)))⟩
        · skip
          have phb5 := of_decide_eq_false hb5
          refine l_noh rfl rfl rfl hb5 rfl rfl ?_
          refine l_noh rfl rfl rfl hb5 rfl rfl ?_
          refine l_op rfl (o_val rfl rfl (r_pickfh rfl rfl hb5 rfl) ?_)
          refine l_op rfl (o_val rfl rfl (r_move rfl rfl) ?_)
          refine l_no rfl rfl rfl rfl rfl rfl ?_
          refine l_no rfl rfl rfl rfl rfl rfl ?_
          refine l_no rfl rfl rfl rfl rfl rfl ?_
          refine l_no rfl rfl rfl rfl rfl rfl ?_
          refine l_no rfl rfl rfl rfl rfl rfl ?_
          refine l_no rfl rfl rfl rfl rfl rfl ?_
          refine l_op rfl (o_val rfl rfl (r_pickf rfl rfl rfl) ?_)
          refine l_op rfl (o_val rfl rfl (r_assign rfl rfl) ?_)
          refine l_nil ?_
          intro aa ww hL hH
          exact ⟨hL.sub (.cons (t := 4) rfl (.eq (t := 34) rfl (by first | (simp [hb5]; done) | (simp only [hb5, Bool.true_and, Bool.false_and, Bool.true_or, Bool.false_or, Bool.and_true, Bool.and_false]; done)) .nil)), hH.hs (.cell .head (.seg .here (.cell .head .all)))⟩
      rintro aa ww ⟨hL, hH⟩
      refine Then.run hL hH ?_
      clear hL hH aa ww
      refine t_cond rfl (fun c34 => ?_) (fun c34 => ?_)
      · skip
        try simp only [Bool.or_eq_true, Bool.and_eq_true, decide_eq_true_eq, Bool.not_eq_true', decide_eq_false_iff_not] at c34
        refine t_seq ?_
        refine t_region ?_
        refine l_op rfl (o_val rfl rfl (r_assign rfl rfl) ?_)
        refine l_nil ?_
        refine e_next ?_
        refine t_ret ?_
        refine e_block_ret ?_
        refine e_pass_ret ?_
        exact e_ret rfl (.tmp rfl .nil) ⟨congrArg (Value.int .i64) (may_3 hsz c14 c34).symm, Pre.ex (.cons (.app (.cons .refl)))⟩
      · skip
        try simp only [Bool.or_eq_false_iff, Bool.and_eq_false_iff, decide_eq_false_iff_not, Bool.not_eq_false', decide_eq_true_eq] at c34
        refine t_skip ?_
        refine e_block _ ?_
        refine e_next ?_
        refine t_seq ?_
        refine t_region ?_
        refine l_op rfl (o_val rfl rfl (r_assign rfl rfl) ?_)
        refine l_nil ?_
        refine e_next ?_
        refine t_ret ?_
        exact e_ret rfl (.tmp rfl .nil) ⟨congrArg (Value.int .i64) (may_0 hsz c14 c26 c34).symm, Pre.ex (.cons (.app (.cons .refl)))⟩

set_option maxRecDepth 100000 in
theorem apply_c {E : Env} {H D : Heap} (hD : ∀ p, p ∈ D → p ∈ H) {bn bm : Nat} (hbn : (bn, .cells ([.map (some bm)] : List Value).toArray 57 (0, 0)) ∈ D) {es : Array MapEntry} {c : Nat} {m : FMap} (him : IsMap es c fileV m) (hfa : FilesAt D m) {r : Rec} {ps : List Piece} (hs : SliceAt D encPiece 33 r.pa r.pn r.pc ps) :
    Fn Try.prog 14 [.pointer (some ⟨bn, 0, none⟩), .agg (encRec r).toArray] E ((bm, .map es c) :: H) (fun v H2 => ∃ X es2 c2 m2, v = .int .i64 (mayL (LM m) r ps) ∧ H2 = X ++ ((bm, .map es2 c2) :: H) ∧ IsMap es2 c2 fileV m2 ∧ FilesAt (X ++ D) m2 ∧ LM m2 = applyL (LM m) r ps) := by
  refine Fn.of_body (N := 47) Try.func14 rfl rfl rfl ?_
  refine t_seq ?_
  refine t_region ?_
  refine l_op rfl (o_box rfl rfl rfl rfl rfl ?_)
  intro b1
  refine l_op rfl (o_val rfl rfl (r_assign rfl rfl) ?_)
  refine l_nil ?_
  refine e_next ?_
  refine t_seq ?_
  refine t_seq ?_
  refine t_region ?_
  refine l_op rfl (o_val rfl rfl (r_move rfl rfl) ?_)
  refine l_op rfl (o_val rfl rfl (r_loadAgg rfl Try.isAgg46 Try.sizeOf46 rfl List.mem_cons_self (At.self _) rfl) ?_)
  refine l_op rfl (o_call rfl rfl rfl Try.call18 rfl (may_c (r := r) (D := D) (fun p hp => (List.mem_cons_of_mem _ (List.mem_cons_of_mem _ (hD _ hp)))) hbn him (List.mem_cons_of_mem _ List.mem_cons_self) hs) ?_)
  rintro _ _ ⟨rfl, X2, rfl⟩
  refine l_op rfl (o_val rfl rfl (r_assign rfl rfl) ?_)
  refine l_nil ?_
  refine e_next ?_
  refine t_seq ?_
  refine t_region ?_
  refine l_op rfl (o_val rfl rfl (r_move rfl rfl) ?_)
  refine l_op rfl (o_val rfl rfl (r_ne rfl rfl rfl) ?_)
  refine l_nil ?_
  refine e_next ?_
  refine t_dec rfl (fun c12 => ?_) (fun c12 => ?_)
  · skip
    refine t_seq ?_
    refine t_region ?_
    refine l_op rfl (o_val rfl rfl (r_move rfl rfl) ?_)
    refine l_op rfl (o_val rfl rfl (r_assign rfl rfl) ?_)
    refine l_nil ?_
    refine e_next ?_
    refine t_ret ?_
    refine e_pass_ret ?_
    refine Then.mem (.seg .here (.cell .head (.cell .head .all))) ?_
    exact e_ret rfl (.tmp rfl .nil) ⟨_, _, _, m, rfl, (PreL.eq (.app (.cons .refl))), him, hfa.mono (fun p hp => List.mem_append_right _ hp), (apply_bad c12).symm⟩
  · skip
    refine t_skip ?_
    refine e_next ?_
    refine t_seq ?_
    refine t_seq ?_
    refine t_region ?_
    refine l_op rfl (o_val rfl rfl (r_fieldAddr (k := 34) rfl rfl Try.underlying46 rfl Try.sizeOf40 rfl rfl) ?_)
    refine l_op rfl (o_val rfl rfl (r_load (v := .int .i64 (r.kind)) rfl Try.isAgg40 rfl (List.mem_append_right _ List.mem_cons_self) rfl) ?_)
    refine l_nil ?_
    refine e_next ?_
    refine t_block ?_
    refine t_seq ?_
    refine t_region ?_
    refine l_op rfl (o_val rfl rfl (r_eq rfl rfl rfl) ?_)
    refine l_op rfl (o_val rfl rfl (r_assign rfl rfl) ?_)
    refine l_nil ?_
    refine e_next ?_
    refine t_dec rfl (fun c16 => ?_) (fun c16 => ?_)
    · skip
      refine t_seq ?_
      refine t_region ?_
      refine l_op rfl (o_val rfl rfl (r_fieldAddr (k := 37) rfl rfl Try.underlying46 rfl Try.sizeOf44 rfl rfl) ?_)
      refine l_op rfl (o_val rfl rfl (r_load (v := .slice r.pa r.pn r.pc) rfl Try.isAgg44 rfl (List.mem_append_right _ List.mem_cons_self) rfl) ?_)
      refine l_op rfl (o_call rfl rfl rfl Try.call31 rfl (size_c (fun p hp => (List.mem_append_right _ (List.mem_cons_of_mem _ (List.mem_cons_of_mem _ (hD _ hp))))) hs) ?_)
      rintro _ _ ⟨rfl, X3, rfl⟩
      obtain ⟨z, hz⟩ := recOk_size (may_ok c12) c16
      rw [sizeV_some hz]
      refine l_op rfl (o_val rfl rfl (r_move rfl rfl) ?_)
      refine l_op rfl (o_val rfl rfl (r_extract (v := .int .i64 (z)) rfl rfl rfl) ?_)
      refine l_op rfl (o_val rfl rfl (r_extract (v := .int .i64 (0)) rfl rfl rfl) ?_)
      refine l_op rfl (o_val rfl rfl (r_assign rfl rfl) ?_)
      refine l_op rfl (o_val rfl rfl (r_assign rfl rfl) ?_)
      refine l_nil ?_
      refine e_next ?_
      have hfew := recOk_few (may_ok c12)
      refine t_draw (n := 16) (.keepS (.keepS (.keep (.drop .all)))) rfl (by kernel_rfl) ?_
      refine a_take (i := 0) rfl rfl rfl rfl (by kernel_rfl) (by kernel_rfl) (by kernel_rfl) (fun _ _ _ h => h) (.keepS (.keepS (.keep (.drop .all)))) (r_move rfl rfl) ?_
      refine a_take (i := 1) rfl rfl rfl rfl (by kernel_rfl) (by kernel_rfl) (by kernel_rfl) (fun _ _ _ h => h) (.keepS (.keepS (.keep (.drop .all)))) (r_nilCheck rfl rfl) ?_
      refine a_take (i := 2) rfl rfl rfl rfl (by kernel_rfl) (by kernel_rfl) (by kernel_rfl) (fun _ _ _ h => h) (.keepS (.keepS (.keep (.drop .all)))) (r_fieldAddr (k := 0) rfl rfl Try.underlying57 rfl Try.sizeOf55 rfl rfl) ?_
      refine a_take (i := 3) rfl rfl rfl rfl (by kernel_rfl) (by kernel_rfl) (by kernel_rfl) (fun _ _ _ h => h) (.keepS (.keepS (.keep (.drop .all)))) (r_load (v := .map (some bm)) rfl Try.isAgg55 rfl ((fun p hp => (List.mem_append_right _ (List.mem_append_right _ (List.mem_cons_of_mem _ (hD _ hp))))) _ hbn) rfl) ?_
      refine a_take (i := 4) rfl rfl rfl rfl (by kernel_rfl) (by kernel_rfl) (by kernel_rfl) (fun _ _ _ h => h) (.keepS (.keepS (.keep (.drop .all)))) (r_fieldAddr (k := 36) rfl rfl Try.underlying46 rfl Try.sizeOf9 rfl rfl) ?_
      refine a_take (i := 5) rfl rfl rfl rfl (by kernel_rfl) (by kernel_rfl) (by kernel_rfl) (fun _ _ _ h => h) (.keepS (.keepS (.keep (.drop .all)))) (r_load (v := .string r.path) rfl Try.isAgg9 rfl (List.mem_append_right _ (List.mem_append_right _ List.mem_cons_self)) rfl) ?_
      refine a_take (i := 6) rfl rfl rfl rfl (by kernel_rfl) (by kernel_rfl) (by kernel_rfl) (fun _ _ _ h => h) (.keepS (.keepS (.keep (.drop .all)))) (r_fieldAddr (k := 36) rfl rfl Try.underlying46 rfl Try.sizeOf9 rfl rfl) ?_
      refine a_take (i := 7) rfl rfl rfl rfl (by kernel_rfl) (by kernel_rfl) (by kernel_rfl) (fun _ _ _ h => h) (.keepS (.keepS (.keep (.drop .all)))) (r_load (v := .string r.path) rfl Try.isAgg9 rfl (List.mem_append_right _ (List.mem_append_right _ List.mem_cons_self)) rfl) ?_
      refine a_take (i := 8) rfl rfl rfl rfl (by kernel_rfl) (by kernel_rfl) (by kernel_rfl) (fun _ _ _ h => h) (.keepS (.keepS (.keep (.drop .all)))) (r_move rfl rfl) ?_
      refine a_take (i := 9) rfl rfl rfl rfl (by kernel_rfl) (by kernel_rfl) (by kernel_rfl) (fun _ _ _ h => h) (.keepS (.keepS (.keep (.drop .all)))) (r_fieldAddr (k := 0) rfl rfl Try.underlying46 rfl Try.sizeOf3 rfl rfl) ?_
      refine a_take (i := 10) rfl rfl rfl rfl (by kernel_rfl) (by kernel_rfl) (by kernel_rfl) (fun _ _ _ h => h) (.keepS (.keepS (.keep (.drop .all)))) (r_load (v := .int .i64 (r.seq)) rfl Try.isAgg3 rfl (List.mem_append_right _ (List.mem_append_right _ List.mem_cons_self)) rfl) ?_
      refine a_take (i := 11) rfl rfl rfl rfl (by kernel_rfl) (by kernel_rfl) (by kernel_rfl) (fun _ _ _ h => h) (.keepS (.keepS (.keep (.drop .all)))) (r_fieldAddr (k := 37) rfl rfl Try.underlying46 rfl Try.sizeOf44 rfl rfl) ?_
      refine a_take (i := 12) rfl rfl rfl rfl (by kernel_rfl) (by kernel_rfl) (by kernel_rfl) (fun _ _ _ h => h) (.keepS (.keepS (.keep (.drop .all)))) (r_load (v := .slice r.pa r.pn r.pc) rfl Try.isAgg44 rfl (List.mem_append_right _ (List.mem_append_right _ List.mem_cons_self)) rfl) ?_
      refine a_take (i := 13) rfl rfl rfl rfl (by kernel_rfl) (by kernel_rfl) (by kernel_rfl) (fun _ _ _ h => h) (.keepS (.keepS (.keep (.drop .all)))) (r_build (cells := encFile (⟨r.path, z, r.seq, r.pa, r.pn, r.pc⟩ : File)) rfl rfl (by kernel_rfl)) ?_
      refine a_one (i := 14) rfl rfl (by kernel_rfl) (o_call rfl rfl rfl Try.call26 rfl (own_c (f := (⟨r.path, z, r.seq, r.pa, r.pn, r.pc⟩ : File)) (k := r.path) (l := ⟨z, r.seq, ps⟩) (D := D) (fun p hp => (List.mem_append_right _ (List.mem_append_right _ (List.mem_cons_of_mem _ (List.mem_cons_of_mem _ (hD _ hp)))))) ⟨rfl, rfl, rfl, hs, hz⟩) ?_)
      rintro _ _ ⟨f4, X4, rfl, rfl, hf4⟩
      refine a_keep (.dropS (.keepS (.keepS (.keep (.drop .all))))) ?_
      refine a_one (i := 15) rfl rfl (by kernel_rfl) (o_mapSet (v := (f4, ⟨z, r.seq, ps⟩)) rfl rfl rfl rfl rfl Try.underlying55 Try.underlying9 (.app (.app (.app (.tail .head)))) him ?_)
      intro es5 c5 him5
      refine a_keep (.drop (.dropS .all)) ?_
      refine a_done (by kernel_rfl) ?_
      refine Then.slots (.cons (t := 4) rfl .nil) ?_
      refine e_block _ ?_
      refine e_next ?_
      refine t_seq ?_
      refine t_region ?_
      refine l_op rfl (o_val rfl rfl (r_assign rfl rfl) ?_)
      refine l_nil ?_
      refine e_next ?_
      refine t_ret ?_
      refine Then.mem (.seg (.tail .here) (.seg (.tail .here) (.seg (.tail .here) (.cell (.tail .head) (.cell .head .all))))) ?_
      exact e_ret rfl (.tmp rfl .nil) ⟨_, _, _, _, congrArg (Value.int .i64) (Decidable.not_not.1 c12).symm, (PreL.eq (.app (.app (.app (.cons .refl))))), him5, (hfa.mono (fun p hp => List.mem_append_right _ hp)).set (hf4.mono (ds_app (fun p hp => (List.mem_append_left _ (List.mem_append_left _ hp))) (fun p hp => List.mem_append_right _ hp))), (LM_mset _ _ _).trans (apply_put c12 c16 hz).symm⟩
    · skip
      refine t_seq ?_
      refine t_region ?_
      refine l_op rfl (o_val rfl rfl (r_eq rfl rfl rfl) ?_)
      refine l_op rfl (o_val rfl rfl (r_assign rfl rfl) ?_)
      refine l_nil ?_
      refine e_next ?_
      refine t_dec rfl (fun c39 => ?_) (fun c39 => ?_)
      · skip
        refine t_draw (n := 7) (.keepS (.keep (.drop .all))) rfl (by kernel_rfl) ?_
        refine a_take (i := 0) rfl rfl rfl rfl (by kernel_rfl) (by kernel_rfl) (by kernel_rfl) (fun _ _ _ h => h) (.keepS (.keep (.drop .all))) (r_move rfl rfl) ?_
        refine a_take (i := 1) rfl rfl rfl rfl (by kernel_rfl) (by kernel_rfl) (by kernel_rfl) (fun _ _ _ h => h) (.keepS (.keep (.drop .all))) (r_nilCheck rfl rfl) ?_
        refine a_take (i := 2) rfl rfl rfl rfl (by kernel_rfl) (by kernel_rfl) (by kernel_rfl) (fun _ _ _ h => h) (.keepS (.keep (.drop .all))) (r_fieldAddr (k := 0) rfl rfl Try.underlying57 rfl Try.sizeOf55 rfl rfl) ?_
        refine a_take (i := 3) rfl rfl rfl rfl (by kernel_rfl) (by kernel_rfl) (by kernel_rfl) (fun _ _ _ h => h) (.keepS (.keep (.drop .all))) (r_load (v := .map (some bm)) rfl Try.isAgg55 rfl ((fun p hp => (List.mem_append_right _ (List.mem_cons_of_mem _ (hD _ hp)))) _ hbn) rfl) ?_
        refine a_take (i := 4) rfl rfl rfl rfl (by kernel_rfl) (by kernel_rfl) (by kernel_rfl) (fun _ _ _ h => h) (.keepS (.keep (.drop .all))) (r_fieldAddr (k := 36) rfl rfl Try.underlying46 rfl Try.sizeOf9 rfl rfl) ?_
        refine a_take (i := 5) rfl rfl rfl rfl (by kernel_rfl) (by kernel_rfl) (by kernel_rfl) (fun _ _ _ h => h) (.keepS (.keep (.drop .all))) (r_load (v := .string r.path) rfl Try.isAgg9 rfl (List.mem_append_right _ List.mem_cons_self) rfl) ?_
        refine a_one (i := 6) rfl rfl (by kernel_rfl) (o_mapDel rfl rfl rfl rfl Try.underlying55 Try.underlying9 (.app (.tail .head)) him ?_)
        intro es6 c6 him6
        refine a_keep (.drop .all) ?_
        refine a_done (by kernel_rfl) ?_
        refine e_block _ ?_
        refine e_next ?_
        refine t_seq ?_
        refine t_region ?_
        refine l_op rfl (o_val rfl rfl (r_assign rfl rfl) ?_)
        refine l_nil ?_
        refine e_next ?_
        refine t_ret ?_
        refine Then.mem (.seg (.tail .here) (.cell (.tail .head) (.cell .head .all))) ?_
        exact e_ret rfl (.tmp rfl .nil) ⟨_, _, _, _, congrArg (Value.int .i64) (Decidable.not_not.1 c12).symm, (PreL.eq (.app (.cons .refl))), him6, (hfa.mono (fun p hp => List.mem_append_right _ hp)).del, (LM_mdel _ _).trans (apply_del c12 c16 c39).symm⟩
      · skip
        refine t_skip ?_
        refine e_block _ ?_
        refine e_next ?_
        refine t_seq ?_
        refine t_region ?_
        refine l_op rfl (o_val rfl rfl (r_assign rfl rfl) ?_)
        refine l_nil ?_
        refine e_next ?_
        refine t_ret ?_
        refine Then.mem (.seg .here (.cell .head (.cell .head .all))) ?_
        exact e_ret rfl (.tmp rfl .nil) ⟨_, _, _, _, congrArg (Value.int .i64) (Decidable.not_not.1 c12).symm, (PreL.eq (.app (.cons .refl))), him, hfa.mono (fun p hp => List.mem_append_right _ hp), (apply_lead c12 c16 c39).symm⟩

set_option maxRecDepth 100000 in
theorem of_c {E : Env} {H D : Heap} (hD : ∀ p, p ∈ D → p ∈ H) {a : Option Addr} {n c : Nat} {rl : List RP2} (hrl : SliceAt D encRecP 38 a n c rl) (hra : RecsAt D rl) (hn : n ≤ 1000000) :
    Fn Try.prog 8 [.slice a n c] E H (fun v H2 => (∃ (k : Nat) (lm : LMap) (x : RP2) (X : Heap), runL [] (rl.take k) = some lm ∧ rl[k]? = some x ∧ mayL lm x.1 x.2 ≠ 0 ∧ v = .tuple #[.pointer none, .int .i64 k, .int .i64 (mayL lm x.1 x.2)] ∧ H2 = X ++ H) ∨ (∃ (bn bm : Nat) (X : Heap) (es : Array MapEntry) (c : Nat) (m : FMap), runL [] rl = some (LM m) ∧ v = .tuple #[.pointer (some ⟨bn, 0, none⟩), .int .i64 n, .int .i64 0] ∧ H2 = X ++ ((bm, .map es c) :: H) ∧ IsMap es c fileV m ∧ FilesAt (X ++ D) m ∧ (bn, .cells ([.map (some bm)] : List Value).toArray 57 (0, 0)) ∈ X ++ D)) := by
  have hln := hrl.len
  refine Fn.of_body (N := 28) Try.func8 rfl rfl rfl ?_
  refine t_seq ?_
  refine t_region ?_
  refine l_op rfl (o_val rfl rfl (r_assign rfl rfl) ?_)
  refine l_op rfl (o_val rfl rfl (r_assign rfl rfl) ?_)
  refine l_op rfl (o_val rfl rfl (r_assign rfl rfl) ?_)
  refine l_nil ?_
  refine e_next ?_
  refine t_seq ?_
  refine t_region ?_
  refine l_op rfl (o_call rfl rfl rfl Try.call13 rfl (new_c) ?_)
  rintro _ _ ⟨bn1, bm1, rfl, rfl⟩
  refine l_op rfl (o_val rfl rfl (r_assign rfl rfl) ?_)
  refine l_nil ?_
  refine e_next ?_
  refine t_seq ?_
  refine t_seq ?_
  refine t_region ?_
  refine l_op rfl (o_val rfl rfl (r_move rfl rfl) ?_)
  refine l_op rfl (o_val rfl rfl (r_len rfl rfl Try.underlying22) ?_)
  refine l_op rfl (o_val rfl rfl (r_move rfl rfl) ?_)
  refine l_nil ?_
  refine e_next ?_
  refine t_block ?_
  refine t_loop (fun (mz : Nat) aa ww => ∃ (k : Int) (X : Heap) (mes : Array MapEntry) (mc : Nat) (m : FMap), mz = (n - k.toNat) ∧ (0 ≤ k) ∧ (k ≤ n) ∧ (IsMap mes mc fileV m) ∧ (FilesAt (X ++ ((bn1, .cells ([.map (some bm1)]).toArray 57 (0, 0)) :: D)) m) ∧ (runL [] (rl.take k.toNat) = some (LM m)) ∧ Sl 28 [(0, .slice a n c), (5, .pointer (some ⟨bn1, 0, none⟩)), (10, .slice a n c), (11, .int .i64 ((n : Int))), (12, .int .i64 (k))] aa ∧ Holds E (X ++ ((bm1, .map mes mc) :: ((bn1, .cells ([.map (some bm1)]).toArray 57 (0, 0)) :: H))) ww) (n) ?_ ?_
  · intro aa ww hL hH
    exact ⟨0, [], #[], 0, [], rfl, by omega, by omega, IsMap.empty fileV, (fun p hp => by cases hp), rfl, hL.sub (.cons (t := 0) rfl (.cons (t := 5) rfl (.cons (t := 10) rfl (.cons (t := 11) rfl (.cons (t := 12) rfl .nil))))), hH.hs (.seg (S := []) .here (.cell (.tail .head) (.cell .head .all)))⟩
  · skip
    rintro mz aa ww ⟨k, X, mes, mc, m, hmz, h0, h1, him, hfa, hrun, hL, hH⟩
    refine Then.run hL hH ?_
    clear hL hH aa ww
    refine t_seq ?_
    refine t_region ?_
    refine l_op rfl (o_val rfl rfl (r_lt rfl rfl rfl) ?_)
    refine l_nil ?_
    refine e_next ?_
    refine t_seq ?_
    refine t_dec rfl (fun c13 => ?_) (fun c13 => ?_)
    · skip
      refine t_skip ?_
      refine e_next ?_
      refine t_seq ?_
      refine t_block ?_
      refine t_seq ?_
      refine t_region ?_
      refine l_op rfl (o_val rfl rfl (r_move rfl rfl) ?_)
      obtain ⟨b2, o2, cs2, T2, f2, ha2, hm2, hr2⟩ := SliceAt.opn hrl (by omega)
      obtain ⟨x1, hx1⟩ : ∃ x, rl[Int.toNat (k)]? = some x := getSome (by have := hrl.len; omega)
      have hpsx1 := hra x1 (List.mem_of_getElem? hx1)
      refine l_op rfl (o_val rfl rfl (r_indexAddr rfl rfl ha2 rfl Try.underlying22 Try.sizeOf46 (by omega) (by omega)) ?_)
      refine l_op rfl (o_val rfl rfl (r_loadAgg rfl Try.isAgg46 Try.sizeOf46 rfl ((fun p hp => (List.mem_append_right _ (List.mem_cons_of_mem _ (List.mem_cons_of_mem _ (hD _ hp))))) _ hm2) (Row.elem hr2 hx1) rfl) ?_)
      refine l_op rfl (o_alloc rfl rfl rfl Try.zeroValue46 rfl ?_)
      intro b3
      refine l_op rfl (o_val rfl rfl (r_assign rfl rfl) ?_)
      refine l_op rfl (o_storeAgg (ys := encRec x1.1) rfl rfl rfl rfl rfl Try.sizeOf46 .head rfl ?_)
      refine l_nil ?_
      refine e_next ?_
      refine t_seq ?_
      refine t_region ?_
      refine l_op rfl (o_val rfl rfl (r_move rfl rfl) ?_)
      refine l_op rfl (o_val rfl rfl (r_loadAgg rfl Try.isAgg46 Try.sizeOf46 rfl List.mem_cons_self (At.self _) rfl) ?_)
      refine Then.mem (.cell (.tail (.app .head)) .all) ?_
      refine l_op rfl (o_call rfl rfl rfl Try.call14 rfl (apply_c (r := x1.1) (D := (X ++ ((bn1, .cells ([.map (some bm1)]).toArray 57 (0, 0)) :: D))) (ds_app (fun p hp => (List.mem_cons_of_mem _ (List.mem_append_left _ hp))) (ds_cons (List.mem_cons_of_mem _ (List.mem_append_right _ List.mem_cons_self)) (fun p hp => (List.mem_cons_of_mem _ (List.mem_append_right _ (List.mem_cons_of_mem _ (hD _ hp))))))) (List.mem_append_right _ List.mem_cons_self) him hfa (SliceAt.mono hpsx1 (fun p hp => (List.mem_append_right _ (List.mem_cons_of_mem _ hp))))) ?_)
      rintro _ _ ⟨X4, es4, c4, m4, rfl, rfl, him4, hfa4, hlm4⟩
      refine l_op rfl (o_val rfl rfl (r_assign rfl rfl) ?_)
      refine l_nil ?_
      refine e_next ?_
      refine t_seq ?_
      refine t_region ?_
      refine l_op rfl (o_val rfl rfl (r_move rfl rfl) ?_)
      refine l_op rfl (o_val rfl rfl (r_ne rfl rfl rfl) ?_)
      refine l_nil ?_
      refine e_next ?_
      refine t_dec rfl (fun c21 => ?_) (fun c21 => ?_)
      · skip
        refine t_seq ?_
        refine t_region ?_
        refine l_op rfl (o_val rfl rfl (r_move rfl rfl) ?_)
        refine l_op rfl (o_val rfl rfl (r_move rfl rfl) ?_)
        refine l_op rfl (o_val rfl rfl (r_assign rfl rfl) ?_)
        refine l_op rfl (o_val rfl rfl (r_assign rfl rfl) ?_)
        refine l_op rfl (o_val rfl rfl (r_assign rfl rfl) ?_)
        refine l_nil ?_
        refine e_next ?_
        refine t_ret ?_
        refine e_block_ret ?_
        refine e_pass_ret ?_
        refine e_pass_ret ?_
        refine e_block_ret ?_
        refine e_pass_ret ?_
        exact e_ret rfl (.tmp rfl (.tmp rfl (.tmp rfl .nil))) (.inl ⟨k.toNat, _, x1, _, hrun, hx1, c21, by rw [Int.toNat_of_nonneg h0]; rfl, (PreL.eq (.app (.cons (.cons (.app (.cons .refl))))))⟩)
      · skip
        refine t_skip ?_
        refine e_block _ ?_
        refine e_next ?_
        refine t_region ?_
        refine l_op rfl (o_val rfl rfl (r_add rfl rfl rfl (by omega) (by omega)) ?_)
        refine l_op rfl (o_val rfl rfl (r_move rfl rfl) ?_)
        refine l_nil ?_
        intro aa ww hL hH
        exact ⟨_, by omega, k + 1, X4 ++ X, es4, c4, m4, rfl, by omega, by omega, him4, (by simpa using hfa4), (by rw [show (k + 1).toNat = k.toNat + 1 by omega, runL_step hrun hx1 (Decidable.not_not.1 c21), hlm4]), hL.sub (.cons (t := 0) rfl (.cons (t := 5) rfl (.cons (t := 10) rfl (.cons (t := 11) rfl (.cons (t := 12) rfl .nil))))), hH.hs (.assoc (.seg .here (.seg (.tail (.tail .here)) (.cell .head (.cell (.tail .head) (.drop .all))))))⟩
    · skip
      refine t_exit ?_
      refine e_pass_exit ?_
      refine e_pass_exit ?_
      refine e_block_here ?_
      refine e_next ?_
      refine t_seq ?_
      refine t_region ?_
      refine l_op rfl (o_val rfl rfl (r_move rfl rfl) ?_)
      refine l_op rfl (o_val rfl rfl (r_move rfl rfl) ?_)
      refine l_op rfl (o_val rfl rfl (r_len rfl rfl Try.underlying22) ?_)
      refine l_op rfl (o_val rfl rfl (r_assign rfl rfl) ?_)
      refine l_op rfl (o_val rfl rfl (r_assign rfl rfl) ?_)
      refine l_op rfl (o_val rfl rfl (r_assign rfl rfl) ?_)
      refine l_nil ?_
      refine e_next ?_
      refine t_ret ?_
      refine Then.mem (.seg .here (.cell (.tail .head) (.cell .head .all))) ?_
      exact e_ret rfl (.tmp rfl (.tmp rfl (.tmp rfl .nil))) (.inr ⟨bn1, bm1, _, _, _, m, (by rw [← hrun, List.take_of_length_le (by omega)]), rfl, (PreL.eq (.app (.cons .refl))), him, hfa.mono (ds_app (fun p hp => (List.mem_append_left _ (List.mem_append_left _ hp))) (ds_cons (List.mem_append_left _ (List.mem_append_right _ List.mem_cons_self)) (fun p hp => List.mem_append_right _ hp))), (List.mem_append_left _ (List.mem_append_right _ List.mem_cons_self))⟩)

theorem made_none {E : Env} {H D : Heap} {v : Value} (hD : ∀ p, p ∈ D → p ∈ H) (hv : NilLike D v) : Fn Try.prog 24 [v] E H (fun u H2 => u = .bool false ∧ H2 = H) := by
  rcases hv with rfl | ⟨b, rfl, hb⟩
  · exact made_nil
  · exact made_empty (hD _ hb)

set_option maxRecDepth 100000 in
theorem stat_none {E : Env} {H D : Heap} (hD : ∀ p, p ∈ D → p ∈ H) {v : Value} (hv : NilLike D v) {k : ByteArray} :
    Fn Try.prog 16 [v, .string k] E H (fun u H2 => u = .tuple #[.agg (encFile File.zero).toArray, .int .i64 4] ∧ ∃ X, H2 = X ++ H) := by
  refine Fn.of_body (N := 26) Try.func16 rfl rfl rfl ?_
  refine t_seq ?_
  refine t_region ?_
  refine l_op rfl (o_alloc rfl rfl rfl Try.zeroValue48 rfl ?_)
  intro b1
  refine l_op rfl (o_val rfl rfl (r_assign rfl rfl) ?_)
  refine l_nil ?_
  refine e_next ?_
  refine t_seq ?_
  refine t_seq ?_
  refine t_region ?_
  refine l_op rfl (o_val rfl rfl (r_move rfl rfl) ?_)
  refine l_op rfl (o_call rfl rfl rfl Try.call24 rfl (made_none (fun p hp => (List.mem_cons_of_mem _ (hD _ hp))) hv) ?_)
  rintro _ _ ⟨rfl, he⟩
  rw [he]
  clear he
  refine l_op rfl (o_val rfl rfl (r_not rfl rfl) ?_)
  refine l_nil ?_
  refine e_next ?_
  refine t_true rfl ?_
  refine t_seq ?_
  refine t_region ?_
  refine l_op rfl (o_val rfl rfl (r_build (cells := encFile (⟨⟨#[]⟩, 0, 0, none, 0, 0⟩ : File)) rfl rfl (by kernel_rfl)) ?_)
  refine l_op rfl (o_storeAgg (ys := encFile (⟨⟨#[]⟩, 0, 0, none, 0, 0⟩ : File)) rfl rfl rfl rfl rfl Try.sizeOf48 .head rfl ?_)
  refine l_op rfl (o_val rfl rfl (r_assign rfl rfl) ?_)
  refine l_nil ?_
  refine e_next ?_
  refine t_ret ?_
  refine e_pass_ret ?_
  exact e_ret rfl (.agg rfl Try.isAgg48 Try.sizeOf48 List.mem_cons_self (At.self _) rfl (.tmp rfl .nil)) ⟨rfl, Pre.ex (.cons .refl)⟩

set_option maxRecDepth 100000 in
theorem may_none {E : Env} {H D : Heap} (hD : ∀ p, p ∈ D → p ∈ H) {v : Value} (hv : NilLike D v) {r : Rec} :
    Fn Try.prog 18 [v, .agg (encRec r).toArray] E H (fun u H2 => u = .int .i64 4 ∧ ∃ X, H2 = X ++ H) := by
  refine Fn.of_body (N := 50) Try.func18 rfl rfl rfl ?_
  refine t_seq ?_
  refine t_region ?_
  refine l_op rfl (o_box rfl rfl rfl rfl rfl ?_)
  intro b1
  refine l_op rfl (o_val rfl rfl (r_assign rfl rfl) ?_)
  refine l_nil ?_
  refine e_next ?_
  refine t_seq ?_
  refine t_seq ?_
  refine t_region ?_
  refine l_op rfl (o_val rfl rfl (r_move rfl rfl) ?_)
  refine l_op rfl (o_call rfl rfl rfl Try.call24 rfl (made_none (fun p hp => (List.mem_cons_of_mem _ (hD _ hp))) hv) ?_)
  rintro _ _ ⟨rfl, he⟩
  rw [he]
  clear he
  refine l_op rfl (o_val rfl rfl (r_not rfl rfl) ?_)
  refine l_nil ?_
  refine e_next ?_
  refine t_true rfl ?_
  refine t_seq ?_
  refine t_region ?_
  refine l_op rfl (o_val rfl rfl (r_assign rfl rfl) ?_)
  refine l_nil ?_
  refine e_next ?_
  refine t_ret ?_
  refine e_pass_ret ?_
  exact e_ret rfl (.tmp rfl .nil) ⟨rfl, Pre.ex (.cons .refl)⟩

set_option maxRecDepth 100000 in
theorem stat_c {E : Env} {H D : Heap} (hD : ∀ p, p ∈ D → p ∈ H) {bn bm : Nat} (hbn : (bn, .cells ([.map (some bm)] : List Value).toArray 57 (0, 0)) ∈ D) {es : Array MapEntry} {c : Nat} {m : FMap} (him : IsMap es c fileV m) (hbm : (bm, .map es c) ∈ H) (hfa : FilesAt D m) {k : ByteArray} :
    Fn Try.prog 16 [.pointer (some ⟨bn, 0, none⟩), .string k] E H (fun v H2 => ∃ f2 e X, v = .tuple #[.agg (encFile f2).toArray, .int .i64 e] ∧ H2 = X ++ H ∧ StatP (X ++ D) (LM m) k f2 e) := by
  refine Fn.of_body (N := 26) Try.func16 rfl rfl rfl ?_
  refine t_seq ?_
  refine t_region ?_
  refine l_op rfl (o_alloc rfl rfl rfl Try.zeroValue48 rfl ?_)
  intro b1
  refine l_op rfl (o_val rfl rfl (r_assign rfl rfl) ?_)
  refine l_nil ?_
  refine e_next ?_
  refine t_seq ?_
  refine t_seq ?_
  refine t_region ?_
  refine l_op rfl (o_val rfl rfl (r_move rfl rfl) ?_)
  refine l_op rfl (o_call rfl rfl rfl Try.call24 rfl (made_c (fun p hp => (List.mem_cons_of_mem _ (hD _ hp))) hbn) ?_)
  rintro _ _ ⟨rfl, he⟩
  rw [he]
  clear he
  refine l_op rfl (o_val rfl rfl (r_not rfl rfl) ?_)
  refine l_nil ?_
  refine e_next ?_
  refine t_false rfl ?_
  refine t_skip ?_
  refine e_next ?_
  refine t_seq ?_
  refine t_region ?_
  refine l_op rfl (o_val rfl rfl (r_move rfl rfl) ?_)
  refine l_op rfl (o_val rfl rfl (r_nilCheck rfl rfl) ?_)
  refine l_op rfl (o_val rfl rfl (r_fieldAddr (k := 0) rfl rfl Try.underlying57 rfl Try.sizeOf55 rfl rfl) ?_)
  refine l_op rfl (o_val rfl rfl (r_load (v := .map (some bm)) rfl Try.isAgg55 rfl ((fun p hp => (List.mem_cons_of_mem _ (hD _ hp))) _ hbn) rfl) ?_)
  refine l_op rfl (o_val rfl rfl (r_move rfl rfl) ?_)
  refine l_op rfl (o_val rfl rfl (r_lookupZ (zx := FD.zero) rfl rfl rfl Try.underlying55 Try.underlying9 Try.zeroValue48 (List.mem_cons_of_mem _ hbm) him) ?_)
  refine l_op rfl (o_val rfl rfl (r_move rfl rfl) ?_)
  refine l_op rfl (o_val rfl rfl (r_extract (v := .agg (encFile ((mget m k).getD FD.zero).1).toArray) rfl rfl rfl) ?_)
  refine l_op rfl (o_val rfl rfl (r_extract (v := .bool ((mget m k).isSome)) rfl rfl rfl) ?_)
  refine l_op rfl (o_alloc rfl rfl rfl Try.zeroValue48 rfl ?_)
  intro b2
  refine l_op rfl (o_storeAgg (ys := encFile ((mget m k).getD FD.zero).1) rfl rfl rfl rfl rfl Try.sizeOf48 .head rfl ?_)
  refine l_op rfl (o_val rfl rfl (r_assign rfl rfl) ?_)
  refine l_nil ?_
  refine e_next ?_
  refine t_seq ?_
  refine t_seq ?_
  refine t_region ?_
  refine l_op rfl (o_val rfl rfl (r_move rfl rfl) ?_)
  refine l_op rfl (o_val rfl rfl (r_not rfl rfl) ?_)
  refine l_nil ?_
  refine e_next ?_
  refine t_cond rfl (fun c22 => ?_) (fun c22 => ?_)
  · skip
    try simp only [Bool.or_eq_true, Bool.and_eq_true, decide_eq_true_eq, Bool.not_eq_true', decide_eq_false_iff_not] at c22
    refine t_seq ?_
    refine t_region ?_
    refine l_op rfl (o_val rfl rfl (r_build (cells := encFile (⟨⟨#[]⟩, 0, 0, none, 0, 0⟩ : File)) rfl rfl (by kernel_rfl)) ?_)
    refine l_op rfl (o_storeAgg (ys := encFile (⟨⟨#[]⟩, 0, 0, none, 0, 0⟩ : File)) rfl rfl rfl rfl rfl Try.sizeOf48 (.tail .head) rfl ?_)
    refine l_op rfl (o_val rfl rfl (r_assign rfl rfl) ?_)
    refine l_nil ?_
    refine e_next ?_
    refine t_ret ?_
    refine e_pass_ret ?_
    exact e_ret rfl (.agg rfl Try.isAgg48 Try.sizeOf48 List.mem_cons_self (At.self _) rfl (.tmp rfl .nil)) ⟨_, _, _, rfl, (PreL.eq (.cons (.cons .refl))), StatP.none c22⟩
  · skip
    try simp only [Bool.or_eq_false_iff, Bool.and_eq_false_iff, decide_eq_false_iff_not, Bool.not_eq_false', decide_eq_true_eq] at c22
    obtain ⟨x, hx⟩ := Option.isSome_iff_exists.1 c22
    have hf0 : FRep D k ((mget m k).getD FD.zero).1 x.2 := by rw [hx]; exact hfa.get hx
    refine t_skip ?_
    refine e_next ?_
    refine t_seq ?_
    refine t_region ?_
    refine l_op rfl (o_val rfl rfl (r_loadAgg rfl Try.isAgg48 Try.sizeOf48 rfl List.mem_cons_self (At.self _) rfl) ?_)
    refine l_op rfl (o_call rfl rfl rfl Try.call26 rfl (own_c (f := ((mget m k).getD FD.zero).1) (k := k) (l := x.2) (D := D) (fun p hp => (List.mem_cons_of_mem _ (List.mem_cons_of_mem _ (hD _ hp)))) hf0) ?_)
    rintro _ _ ⟨f3, X3, rfl, rfl, hf3⟩
    refine l_op rfl (o_storeAgg (ys := encFile f3) rfl rfl rfl rfl rfl Try.sizeOf48 (.app (.tail .head)) rfl ?_)
    refine l_op rfl (o_val rfl rfl (r_assign rfl rfl) ?_)
    refine l_nil ?_
    refine e_next ?_
    refine t_ret ?_
    exact e_ret rfl (.agg rfl Try.isAgg48 Try.sizeOf48 List.mem_cons_self (At.self _) rfl (.tmp rfl .nil)) ⟨_, _, _, rfl, (PreL.eq (.cons (.app (.cons .refl)))), StatP.some hx (hf3.mono (ds_app (fun p hp => (List.mem_append_left _ (List.mem_cons_of_mem _ (List.mem_append_left _ hp)))) (fun p hp => List.mem_append_right _ hp)))⟩

set_option maxRecDepth 100000 in
theorem ends_c {E : Env} {H D : Heap} (hD : ∀ p, p ∈ D → p ∈ H) {a : Option Addr} {n c : Nat} {ps : List Piece} {tot : Int} (hs : SliceAt D encPiece 33 a n c ps) (hfew : n ≤ 4096) (htot : sizeGo 0 ps = some tot) :
    Fn Try.prog 42 [.slice a n c] E H (fun v H2 => ∃ a2 c2 X, v = .slice a2 n c2 ∧ H2 = X ++ H ∧ SliceAt (X ++ D) encInt 1 a2 n c2 (endsL 0 ps)) := by
  have hln := hs.len
  refine Fn.of_body (N := 23) Try.func42 rfl rfl rfl ?_
  refine t_seq ?_
  refine t_region ?_
  refine l_op rfl (o_val rfl rfl (r_assign rfl rfl) ?_)
  refine l_nil ?_
  refine e_next ?_
  refine t_seq ?_
  refine t_region ?_
  refine l_op rfl (o_val rfl rfl (r_assign rfl rfl) ?_)
  refine l_nil ?_
  refine e_next ?_
  refine t_seq ?_
  refine t_region ?_
  refine l_op rfl (o_val rfl rfl (r_assign rfl rfl) ?_)
  refine l_nil ?_
  refine e_next ?_
  refine t_seq ?_
  refine t_seq ?_
  refine t_region ?_
  refine l_op rfl (o_val rfl rfl (r_move rfl rfl) ?_)
  refine l_op rfl (o_val rfl rfl (r_len rfl rfl Try.underlying44) ?_)
  refine l_op rfl (o_val rfl rfl (r_move rfl rfl) ?_)
  refine l_nil ?_
  refine e_next ?_
  refine t_block ?_
  refine t_loop (fun (mz : Nat) aa ww => ∃ (k : Int) (z : Int) (vo : Value) (X : Heap), mz = (n - k.toNat) ∧ (0 ≤ k) ∧ (k ≤ n) ∧ (sizeGo 0 (ps.take k.toNat) = some z) ∧ (Own 1 3 vo ((endsL 0 (ps.take k.toNat)).map encInt) X) ∧ Sl 23 [(3, vo), (4, .int .i64 (z)), (7, .slice a n c), (8, .int .i64 ((n : Int))), (9, .int .i64 (k))] aa ∧ Holds E (X ++ H) ww) (n) ?_ ?_
  · intro aa ww hL hH
    exact ⟨0, 0, .slice none 0 0, [], rfl, by omega, by omega, rfl, Own.nil _ _, hL.sub (.cons (t := 3) rfl (.cons (t := 4) rfl (.cons (t := 7) rfl (.cons (t := 8) rfl (.cons (t := 9) rfl .nil))))), hH.hs (.seg (S := []) .here .all)⟩
  · skip
    rintro mz aa ww ⟨k, z, vo, X, hmz, h0, h1, hz, ho, hL, hH⟩
    refine Then.run hL hH ?_
    clear hL hH aa ww
    have hzr := sizeGo_range (by omega) (by omega) hz
    refine t_seq ?_
    refine t_region ?_
    refine l_op rfl (o_val rfl rfl (r_lt rfl rfl rfl) ?_)
    refine l_nil ?_
    refine e_next ?_
    refine t_seq ?_
    refine t_dec rfl (fun c10 => ?_) (fun c10 => ?_)
    · skip
      refine t_skip ?_
      refine e_next ?_
      refine t_seq ?_
      refine t_block ?_
      refine t_seq ?_
      refine t_region ?_
      obtain ⟨b1, o1, cs1, T1, f1, ha1, hm1, hr1⟩ := SliceAt.opn hs (by omega)
      obtain ⟨p1, hx1⟩ : ∃ x, ps[Int.toNat (k)]? = some x := getSome (by have := hs.len; omega)
      have hpn := sizeGo_piece htot hx1
      have hzn := sizeGo_take_next htot hz hx1
      have hznr := sizeGo_range (by omega) (by omega) hzn
      refine l_op rfl (o_val rfl rfl (r_indexAddr rfl rfl ha1 rfl Try.underlying44 Try.sizeOf66 (by omega) (by omega)) ?_)
      refine l_op rfl (o_val rfl rfl (r_loadAgg rfl Try.isAgg66 Try.sizeOf66 rfl ((fun p hp => (List.mem_append_right _ (hD _ hp))) _ hm1) (Row.elem hr1 hx1) rfl) ?_)
      refine l_op rfl (o_alloc rfl rfl rfl Try.zeroValue66 rfl ?_)
      intro b2
      refine l_op rfl (o_storeAgg (ys := encPiece p1) rfl rfl rfl rfl rfl Try.sizeOf66 .head rfl ?_)
      refine l_nil ?_
      refine e_next ?_
      refine t_seq ?_
      refine t_region ?_
      refine l_op rfl (o_val rfl rfl (r_move rfl rfl) ?_)
      refine l_op rfl (o_val rfl rfl (r_fieldAddr (k := 32) rfl rfl Try.underlying66 rfl Try.sizeOf3 rfl rfl) ?_)
      refine l_op rfl (o_val rfl rfl (r_load (v := .int .i64 (p1.n)) rfl Try.isAgg3 rfl List.mem_cons_self rfl) ?_)
      refine l_op rfl (o_val rfl rfl (r_add rfl rfl rfl (by omega) (by omega)) ?_)
      refine l_op rfl (o_val rfl rfl (r_assign rfl rfl) ?_)
      refine l_nil ?_
      refine e_next ?_
      refine t_region ?_
      refine l_op rfl (o_val rfl rfl (r_move rfl rfl) ?_)
      refine l_op rfl (o_val rfl rfl (r_move rfl rfl) ?_)
      refine l_op rfl (o_slice1 rfl rfl rfl rfl rfl Try.underlying88 Try.sizeOf3 Try.zeroValue3 rfl rfl (by omega) ?_)
      intro b3
      refine l_op rfl (o_appendS (enc := encInt) (xs := (endsL 0 (ps.take k.toNat))) (l := [z + p1.n]) rfl rfl rfl rfl rfl Try.underlying88 Try.type3 rfl rfl rfl rfl (fun _ => rfl) (fun _ => rfl) ho (.tail (.tail .here)) (sliceAt_one (enc := encInt) (a := z + p1.n) rfl List.mem_cons_self) (by show (_ + _) * 8 ≤ _; (try simp only [List.length_nil, List.length_cons, List.length_append, List.length_map, List.length_take, endsL_length]); omega) (by (try simp only [List.length_nil, List.length_cons, List.length_append, List.length_map, List.length_take, endsL_length]); omega) ?_)
      intro v4 X4 ho4
      refine l_op rfl (o_val rfl rfl (r_assign rfl rfl) ?_)
      refine l_nil ?_
      refine e_block _ ?_
      refine e_next ?_
      refine t_region ?_
      refine l_op rfl (o_val rfl rfl (r_add rfl rfl rfl (by omega) (by omega)) ?_)
      refine l_op rfl (o_val rfl rfl (r_move rfl rfl) ?_)
      refine l_nil ?_
      intro aa ww hL hH
      exact ⟨_, by omega, k + 1, z + p1.n, v4, X4, rfl, by omega, by omega, by rw [show (k + 1).toNat = k.toNat + 1 by omega]; exact hzn, by rw [show (k + 1).toNat = k.toNat + 1 by omega, endsL_step hz hx1]; exact ho4, hL.sub (.cons (t := 3) rfl (.cons (t := 4) rfl (.cons (t := 7) rfl (.cons (t := 8) rfl (.cons (t := 9) rfl .nil))))), hH.hs (.seg .here (.drop (.drop .all)))⟩
    · skip
      refine t_exit ?_
      refine e_pass_exit ?_
      refine e_pass_exit ?_
      refine e_block_here ?_
      refine e_next ?_
      refine t_seq ?_
      refine t_region ?_
      refine l_op rfl (o_val rfl rfl (r_move rfl rfl) ?_)
      refine l_op rfl (o_val rfl rfl (r_assign rfl rfl) ?_)
      refine l_nil ?_
      refine e_next ?_
      refine t_ret ?_
      refine Then.mem (.seg .here .all) ?_
      exact e_ret rfl (.tmp rfl .nil) (own_post (by rw [endsL_length]; exact hln) (by rw [← List.take_of_length_le (i := k.toNat) (l := ps) (by omega)]; exact ho))

set_option maxRecDepth 100000 in
theorem seek1_c {E : Env} {H D : Heap} (hD : ∀ p, p ∈ D → p ∈ H) {bs bf : Nat} {a : Option Addr} {n c : Nat} {bl : List Int} {fr : Int} (hbs : (bs, .cells ([.slice a n c] : List Value).toArray 88 (0, 0)) ∈ D) (hbf : (bf, .cells ([.int .i64 fr] : List Value).toArray 3 (0, 0)) ∈ D) (hs : SliceAt D encInt 1 a n c bl) {i : Int} (h0 : 0 ≤ i) (h1 : i < n) :
    Fn Try.prog 44 [.int .i64 i, .pointer (some ⟨bs, 0, none⟩), .pointer (some ⟨bf, 0, none⟩)] E H (fun v H2 => ∃ x, bl[i.toNat]? = some x ∧ v = .bool (decide (x > fr)) ∧ H2 = H) := by
  have hln := hs.len
  refine Fn.of_body (N := 11) Try.func44 rfl rfl rfl ?_
  refine t_seq ?_
  refine t_region ?_
  refine l_op rfl (o_val rfl rfl (r_assign rfl rfl) ?_)
  refine l_nil ?_
  refine e_next ?_
  refine t_seq ?_
  refine t_draw (n := 7) .all rfl (by kernel_rfl) ?_
  refine a_take (i := 0) rfl rfl rfl rfl (by kernel_rfl) (by kernel_rfl) (by kernel_rfl) (fun _ _ _ h => h) .all (r_load (v := .slice a n c) rfl Try.isAgg88 rfl ((fun p hp => (hD _ hp)) _ hbs) rfl) ?_
  refine a_take (i := 1) rfl rfl rfl rfl (by kernel_rfl) (by kernel_rfl) (by kernel_rfl) (fun _ _ _ h => h) .all (r_move rfl rfl) ?_
  obtain ⟨b1, o1, cs1, T1, f1, ha1, hm1, hr1⟩ := SliceAt.opn hs (by omega)
  obtain ⟨x1, hx1⟩ : ∃ x, bl[Int.toNat (i)]? = some x := getSome (by have := hs.len; omega)
  refine a_take (i := 2) rfl rfl rfl rfl (by kernel_rfl) (by kernel_rfl) (by kernel_rfl) (fun _ _ _ h => h) .all (r_indexAddr rfl rfl ha1 rfl Try.underlying88 Try.sizeOf3 (by omega) (by omega)) ?_
  refine a_take (i := 3) rfl rfl rfl rfl (by kernel_rfl) (by kernel_rfl) (by kernel_rfl) (fun _ _ _ h => h) .all (r_load (v := .int .i64 (x1)) rfl Try.isAgg3 rfl ((fun p hp => (hD _ hp)) _ hm1) (At.get0 (Row.elem hr1 hx1) rfl)) ?_
  refine a_take (i := 4) rfl rfl rfl rfl (by kernel_rfl) (by kernel_rfl) (by kernel_rfl) (fun _ _ _ h => h) .all (r_load (v := .int .i64 (fr)) rfl Try.isAgg3 rfl ((fun p hp => (hD _ hp)) _ hbf) rfl) ?_
  refine a_take (i := 5) rfl rfl rfl rfl (by kernel_rfl) (by kernel_rfl) (by kernel_rfl) (fun _ _ _ h => h) .all (r_gt rfl rfl rfl) ?_
  refine a_take (i := 6) rfl rfl rfl rfl (by kernel_rfl) (by kernel_rfl) (by kernel_rfl) (fun _ _ _ h => h) .all (r_assign rfl rfl) ?_
  refine a_done (by kernel_rfl) ?_
  refine e_next ?_
  refine t_ret ?_
  exact e_ret rfl (.tmp rfl .nil) ⟨x1, hx1, rfl, rfl⟩

set_option maxRecDepth 100000 in
theorem search_c {E : Env} {H D : Heap} (hD : ∀ p, p ∈ D → p ∈ H) {bs bf : Nat} {a : Option Addr} {n c : Nat} {bl : List Int} {fr : Int} (hbs : (bs, .cells ([.slice a n c] : List Value).toArray 88 (0, 0)) ∈ D) (hbf : (bf, .cells ([.int .i64 fr] : List Value).toArray 3 (0, 0)) ∈ D) (hs : SliceAt D encInt 1 a n c bl) (hmon : ∀ (p q : Nat) (x y : Int), p ≤ q → bl[p]? = some x → bl[q]? = some y → x ≤ y) (hn : n ≤ 4096) :
    Fn Try.prog 43 [.int .i64 n, .func (.func 44) #[] #[.pointer (some ⟨bs, 0, none⟩), .pointer (some ⟨bf, 0, none⟩)]] E H (fun v H2 => ∃ i : Int, v = .int .i64 i ∧ 0 ≤ i ∧ i ≤ n ∧ (∀ q : Nat, (q : Int) < i → ∀ x, bl[q]? = some x → x ≤ fr) ∧ (∀ q : Nat, i ≤ (q : Int) → ∀ x, bl[q]? = some x → x > fr) ∧ H2 = H) := by
  have hln := hs.len
  refine Fn.of_body (N := 26) Try.func43 rfl rfl rfl ?_
  refine t_seq ?_
  refine t_region ?_
  refine l_op rfl (o_val rfl rfl (r_assign rfl rfl) ?_)
  refine l_nil ?_
  refine e_next ?_
  refine t_seq ?_
  refine t_region ?_
  refine l_op rfl (o_val rfl rfl (r_move rfl rfl) ?_)
  refine l_op rfl (o_val rfl rfl (r_assign rfl rfl) ?_)
  refine l_op rfl (o_val rfl rfl (r_assign rfl rfl) ?_)
  refine l_nil ?_
  refine e_next ?_
  refine t_seq ?_
  refine t_block ?_
  refine t_loop (fun (mz : Nat) aa ww => ∃ (i : Int) (j : Int), mz = (j - i).toNat ∧ (0 ≤ i) ∧ (i ≤ j) ∧ (j ≤ n) ∧ (∀ q : Nat, (q : Int) < i → ∀ x, bl[q]? = some x → x ≤ fr) ∧ (∀ q : Nat, j ≤ (q : Int) → ∀ x, bl[q]? = some x → x > fr) ∧ Sl 26 [(1, .func (.func 44) #[] #[.pointer (some ⟨bs, 0, none⟩), .pointer (some ⟨bf, 0, none⟩)]), (5, .int .i64 (i)), (6, .int .i64 (j))] aa ∧ Holds E H ww) (((n : Int) - 0).toNat) ?_ ?_
  · intro aa ww hL hH
    exact ⟨0, n, rfl, by omega, by omega, by omega, (fun q hq => by omega), (fun q hq x hx => by have := (List.getElem?_eq_some_iff.1 hx).1; omega), hL.sub (.cons (t := 1) rfl (.cons (t := 5) rfl (.cons (t := 6) rfl .nil))), hH.hs .all⟩
  · skip
    rintro mz aa ww ⟨i, j, hmz, h0, h1, h2, hlo, hhi, hL, hH⟩
    refine Then.run hL hH ?_
    clear hL hH aa ww
    refine t_seq ?_
    refine t_seq ?_
    refine t_region ?_
    refine l_op rfl (o_val rfl rfl (r_move rfl rfl) ?_)
    refine l_op rfl (o_val rfl rfl (r_move rfl rfl) ?_)
    refine l_op rfl (o_val rfl rfl (r_lt rfl rfl rfl) ?_)
    refine l_nil ?_
    refine e_next ?_
    refine t_dec rfl (fun c11 => ?_) (fun c11 => ?_)
    · skip
      refine t_skip ?_
      refine e_next ?_
      refine t_block ?_
      refine t_seq ?_
      refine t_region ?_
      refine l_op rfl (o_val rfl rfl (r_move rfl rfl) ?_)
      refine l_op rfl (o_val rfl rfl (r_move rfl rfl) ?_)
      refine l_op rfl (o_val rfl rfl (r_add rfl rfl rfl (by omega) (by omega)) ?_)
      refine l_op rfl (o_val rfl rfl (r_convU rfl rfl Try.underlying3 Try.underlying102 (by omega) (by omega)) ?_)
      refine l_op rfl (o_val rfl rfl (r_shr1 rfl rfl rfl) ?_)
      refine l_op rfl (o_val rfl rfl (r_convI rfl rfl Try.underlying102 Try.underlying3 (by omega) (by omega)) ?_)
      refine l_op rfl (o_val rfl rfl (r_assign rfl rfl) ?_)
      refine l_nil ?_
      refine e_next ?_
      refine t_seq ?_
      refine t_region ?_
      refine l_op rfl (o_val rfl rfl (r_move rfl rfl) ?_)
      refine l_op rfl (o_val rfl rfl (r_move rfl rfl) ?_)
      refine l_op rfl (o_callv rfl rfl rfl rfl Try.call44 rfl (seek1_c (i := (i + j) / 2) (fun p hp => (hD _ hp)) hbs hbf hs (by omega) (by omega)) ?_)
      rintro _ _ ⟨x1, hx1, rfl, rfl⟩
      refine l_op rfl (o_val rfl rfl (r_notdec rfl rfl) ?_)
      refine l_nil ?_
      refine e_next ?_
      refine t_dec rfl (fun c21 => ?_) (fun c21 => ?_)
      · skip
        refine t_region ?_
        refine l_op rfl (o_val rfl rfl (r_move rfl rfl) ?_)
        refine l_op rfl (o_val rfl rfl (r_add rfl rfl rfl (by omega) (by omega)) ?_)
        refine l_op rfl (o_val rfl rfl (r_assign rfl rfl) ?_)
        refine l_nil ?_
        refine e_block _ ?_
        intro aa ww hL hH
        exact ⟨_, by omega, ((i + j) / 2) + 1, j, rfl, by omega, by omega, by omega, (search_lo hmon (by omega) hx1 c21), hhi, hL.sub (.cons (t := 1) rfl (.cons (t := 5) rfl (.cons (t := 6) rfl .nil))), hH.hs .all⟩
      · skip
        refine t_region ?_
        refine l_op rfl (o_val rfl rfl (r_move rfl rfl) ?_)
        refine l_op rfl (o_val rfl rfl (r_assign rfl rfl) ?_)
        refine l_nil ?_
        refine e_block _ ?_
        intro aa ww hL hH
        exact ⟨_, by omega, i, (i + j) / 2, rfl, by omega, by omega, by omega, hlo, (search_hi hmon hx1 (Decidable.not_not.1 c21)), hL.sub (.cons (t := 1) rfl (.cons (t := 5) rfl (.cons (t := 6) rfl .nil))), hH.hs .all⟩
    · skip
      refine t_exit ?_
      refine e_pass_exit ?_
      refine e_pass_exit ?_
      refine e_block_here ?_
      refine e_next ?_
      refine t_seq ?_
      refine t_region ?_
      refine l_op rfl (o_val rfl rfl (r_move rfl rfl) ?_)
      refine l_op rfl (o_val rfl rfl (r_assign rfl rfl) ?_)
      refine l_nil ?_
      refine e_next ?_
      refine t_ret ?_
      exact e_ret rfl (.tmp rfl .nil) ⟨i, rfl, by omega, by omega, hlo, (fun q hq => hhi q (by omega)), rfl⟩

set_option maxRecDepth 100000 in
theorem seek_none {E : Env} {H D : Heap} (hD : ∀ p, p ∈ D → p ∈ H) {v : Value} (hv : NilLike D v) {k : ByteArray} {fr sz : Int} :
    Fn Try.prog 21 [v, .string k, .int .i64 fr, .int .i64 sz] E H (fun u H2 => u = .tuple #[.slice none 0 0, .int .i64 4] ∧ ∃ X, H2 = X ++ H) := by
  refine Fn.of_body (N := 99) Try.func21 rfl rfl rfl ?_
  refine t_seq ?_
  refine t_region ?_
  refine l_op rfl (o_box rfl rfl rfl rfl rfl ?_)
  intro b1
  refine l_op rfl (o_val rfl rfl (r_assign rfl rfl) ?_)
  refine l_op rfl (o_val rfl rfl (r_assign rfl rfl) ?_)
  refine l_nil ?_
  refine e_next ?_
  refine t_seq ?_
  refine t_region ?_
  refine l_op rfl (o_val rfl rfl (r_move rfl rfl) ?_)
  refine l_op rfl (o_val rfl rfl (r_move rfl rfl) ?_)
  refine l_op rfl (o_call rfl rfl rfl Try.call16 rfl (stat_none (fun p hp => (List.mem_cons_of_mem _ (hD _ hp))) hv) ?_)
  rintro _ _ ⟨rfl, X2, rfl⟩
  refine l_op rfl (o_val rfl rfl (r_move rfl rfl) ?_)
  refine l_op rfl (o_val rfl rfl (r_extract (v := .agg (encFile File.zero).toArray) rfl rfl rfl) ?_)
  refine l_op rfl (o_val rfl rfl (r_extract (v := .int .i64 (4)) rfl rfl rfl) ?_)
  refine l_op rfl (o_alloc rfl rfl rfl Try.zeroValue48 rfl ?_)
  intro b3
  refine l_op rfl (o_storeAgg (ys := encFile File.zero) rfl rfl rfl rfl rfl Try.sizeOf48 .head rfl ?_)
  refine l_op rfl (o_val rfl rfl (r_assign rfl rfl) ?_)
  refine l_nil ?_
  refine e_next ?_
  refine t_seq ?_
  refine t_seq ?_
  refine t_region ?_
  refine l_op rfl (o_val rfl rfl (r_move rfl rfl) ?_)
  refine l_op rfl (o_val rfl rfl (Run.eq (v' := .bool true) (r_ne rfl rfl rfl) (by rfl)) ?_)
  refine l_nil ?_
  refine e_next ?_
  refine t_true rfl ?_
  refine t_seq ?_
  refine t_region ?_
  refine l_op rfl (o_val rfl rfl (r_move rfl rfl) ?_)
  refine l_op rfl (o_val rfl rfl (r_assign rfl rfl) ?_)
  refine l_op rfl (o_val rfl rfl (r_assign rfl rfl) ?_)
  refine l_nil ?_
  refine e_next ?_
  refine t_ret ?_
  refine e_pass_ret ?_
  exact e_ret rfl (.tmp rfl (.tmp rfl .nil)) ⟨rfl, Pre.ex (.cons (.app (.cons .refl)))⟩

set_option maxRecDepth 100000 in
theorem seek_c {E : Env} {H D : Heap} (hD : ∀ p, p ∈ D → p ∈ H) {bn bm : Nat} (hbn : (bn, .cells ([.map (some bm)] : List Value).toArray 57 (0, 0)) ∈ D) {es : Array MapEntry} {c : Nat} {m : FMap} (him : IsMap es c fileV m) (hbm : (bm, .map es c) ∈ H) (hfa : FilesAt D m) {k : ByteArray} {fr sz : Int} :
    Fn Try.prog 21 [.pointer (some ⟨bn, 0, none⟩), .string k, .int .i64 fr, .int .i64 sz] E H (fun v H2 => ∃ a2 n2 c2 X, v = .tuple #[.slice a2 n2 c2, .int .i64 (seekRes (LM m) k fr sz).2] ∧ H2 = X ++ H ∧ SliceAt (X ++ D) encPart 35 a2 n2 c2 (seekRes (LM m) k fr sz).1) := by
  refine Fn.of_body (N := 99) Try.func21 rfl rfl rfl ?_
  refine t_seq ?_
  refine t_region ?_
  refine l_op rfl (o_box rfl rfl rfl rfl rfl ?_)
  intro b1
  refine l_op rfl (o_val rfl rfl (r_assign rfl rfl) ?_)
  refine l_op rfl (o_val rfl rfl (r_assign rfl rfl) ?_)
  refine l_nil ?_
  refine e_next ?_
  refine t_seq ?_
  refine t_region ?_
  refine l_op rfl (o_val rfl rfl (r_move rfl rfl) ?_)
  refine l_op rfl (o_val rfl rfl (r_move rfl rfl) ?_)
  refine l_op rfl (o_call rfl rfl rfl Try.call16 rfl (stat_c (k := k) (D := D) (fun p hp => (List.mem_cons_of_mem _ (hD _ hp))) hbn him (List.mem_cons_of_mem _ hbm) hfa) ?_)
  rintro _ _ ⟨f2, e2, X2, rfl, rfl, hst2⟩
  refine l_op rfl (o_val rfl rfl (r_move rfl rfl) ?_)
  refine l_op rfl (o_val rfl rfl (r_extract (v := .agg (encFile f2).toArray) rfl rfl rfl) ?_)
  refine l_op rfl (o_val rfl rfl (r_extract (v := .int .i64 (e2)) rfl rfl rfl) ?_)
  refine l_op rfl (o_alloc rfl rfl rfl Try.zeroValue48 rfl ?_)
  intro b3
  refine l_op rfl (o_storeAgg (ys := encFile f2) rfl rfl rfl rfl rfl Try.sizeOf48 .head rfl ?_)
  refine l_op rfl (o_val rfl rfl (r_assign rfl rfl) ?_)
  refine l_nil ?_
  refine e_next ?_
  refine t_seq ?_
  refine t_seq ?_
  refine t_region ?_
  refine l_op rfl (o_val rfl rfl (r_move rfl rfl) ?_)
  refine l_op rfl (o_val rfl rfl (r_ne rfl rfl rfl) ?_)
  refine l_nil ?_
  refine e_next ?_
  refine t_dec rfl (fun c25 => ?_) (fun c25 => ?_)
  · skip
    refine t_seq ?_
    refine t_region ?_
    refine l_op rfl (o_val rfl rfl (r_move rfl rfl) ?_)
    refine l_op rfl (o_val rfl rfl (r_assign rfl rfl) ?_)
    refine l_op rfl (o_val rfl rfl (r_assign rfl rfl) ?_)
    refine l_nil ?_
    refine e_next ?_
    refine t_ret ?_
    refine e_pass_ret ?_
    exact e_ret rfl (.tmp rfl (.tmp rfl .nil)) (by rw [seekRes_none (StatP.bad hst2 c25).1]; exact ⟨none, 0, 0, _, by rw [(StatP.bad hst2 c25).2]; rfl, (PreL.eq (.cons (.app (.cons .refl)))), .nil⟩)
  · skip
    obtain ⟨l, hl, hf⟩ := StatP.ok hst2 c25
    have hfs := hf.size
    have hln := hf.at_.len
    have hfew := hf.few
    have htot := recSize_go hf.tot
    have htr := recSize_range hf.tot
    refine t_skip ?_
    refine e_next ?_
    refine t_seq ?_
    refine t_cut (fun aa ww => Sl 99 [(3, .int .i64 (sz)), (6, .pointer (some ⟨b1, 0, none⟩)), (8, .slice none 0 0), (9, .int .i64 (0)), (10, .pointer (some ⟨b3, 0, none⟩)), (44, .bool (((decide ((min (fr) (sz)) < 0) || decide (fr > f2.size)) || decide (sz > (f2.size - fr)))))] aa ∧ Holds E ((b3, .cells (encFile f2).toArray 48 (0, 0)) :: (X2 ++ ((b1, .cells ([.int .i64 (fr)]).toArray 3 (0, 0)) :: H))) ww) ?_ ?_
    · skip
      refine t_region ?_
      refine l_op rfl (o_val rfl rfl (r_load (v := .int .i64 (fr)) rfl Try.isAgg3 rfl (List.mem_cons_of_mem _ (List.mem_append_right _ List.mem_cons_self)) rfl) ?_)
      refine l_op rfl (o_val rfl rfl (r_move rfl rfl) ?_)
      refine l_op rfl (o_val rfl rfl (r_min rfl rfl rfl) ?_)
      refine l_op rfl (o_val rfl rfl (r_lt rfl rfl rfl) ?_)
      refine l_op rfl (o_val rfl rfl (r_move rfl rfl) ?_)
      refine t_bool (decide ((min (fr) (sz)) < 0)) (fun hb4 => ?_) (fun hb4 => ?_)
      · skip
        have phb4 := of_decide_eq_true hb4
        refine l_noh rfl rfl rfl hb4 rfl rfl ?_
        refine l_noh rfl rfl rfl hb4 rfl rfl ?_
        refine l_noh rfl rfl rfl hb4 rfl rfl ?_
        refine l_noh rfl rfl rfl hb4 rfl rfl ?_
        refine l_op rfl (o_val rfl rfl (r_pickth rfl rfl hb4 rfl) ?_)
        refine l_op rfl (o_val rfl rfl (r_move rfl rfl) ?_)
        refine l_no rfl rfl rfl rfl rfl rfl ?_
        refine l_no rfl rfl rfl rfl rfl rfl ?_
        refine l_no rfl rfl rfl rfl rfl rfl ?_
        refine l_no rfl rfl rfl rfl rfl rfl ?_
        refine l_no rfl rfl rfl rfl rfl rfl ?_
        refine l_no rfl rfl rfl rfl rfl rfl ?_
        refine l_op rfl (o_val rfl rfl (r_pickt rfl rfl rfl) ?_)
        refine l_nil ?_
        refine Then.slots (.cons (t := 3) rfl (.cons (t := 6) rfl (.cons (t := 8) rfl (.cons (t := 9) rfl (.cons (t := 10) rfl (.cons (t := 44) rfl .nil)))))) ?_
        intro aa ww hL hH
        exact ⟨hL.sub (.cons (t := 3) rfl (.cons (t := 6) rfl (.cons (t := 8) rfl (.cons (t := 9) rfl (.cons (t := 10) rfl (.eq (t := 44) rfl (by first | (simp [hb4]; done) | (simp only [hb4, Bool.true_and, Bool.false_and, Bool.true_or, Bool.false_or, Bool.and_true, Bool.and_false]; done)) .nil)))))), hH.hs (.cell .head (.seg .here (.cell .head .all)))⟩
      · skip
        have phb4 := of_decide_eq_false hb4
        refine l_yesh rfl rfl rfl hb4 (o_val rfl rfl (r_load (v := .int .i64 (fr)) rfl Try.isAgg3 rfl (List.mem_cons_of_mem _ (List.mem_append_right _ List.mem_cons_self)) rfl) ?_)
        refine l_yesh rfl rfl rfl hb4 (o_val rfl rfl (r_fieldAddr (k := 1) rfl rfl Try.underlying48 rfl Try.sizeOf3 rfl rfl) ?_)
        refine l_yesh rfl rfl rfl hb4 (o_val rfl rfl (r_load (v := .int .i64 (f2.size)) rfl Try.isAgg3 rfl List.mem_cons_self rfl) ?_)
        refine l_yesh rfl rfl rfl hb4 (o_val rfl rfl (r_gt rfl rfl rfl) ?_)
        refine l_op rfl (o_val rfl rfl (r_pickfh rfl rfl hb4 rfl) ?_)
        refine l_op rfl (o_val rfl rfl (r_move rfl rfl) ?_)
        refine t_bool (decide (fr > f2.size)) (fun hb5 => ?_) (fun hb5 => ?_)
        · skip
          have phb5 := of_decide_eq_true hb5
          refine l_noh rfl rfl rfl hb5 rfl rfl ?_
          refine l_noh rfl rfl rfl hb5 rfl rfl ?_
          refine l_noh rfl rfl rfl hb5 rfl rfl ?_
          refine l_noh rfl rfl rfl hb5 rfl rfl ?_
          refine l_noh rfl rfl rfl hb5 rfl rfl ?_
          refine l_noh rfl rfl rfl hb5 rfl rfl ?_
          refine l_op rfl (o_val rfl rfl (r_pickth rfl rfl hb5 rfl) ?_)
          refine l_nil ?_
          refine Then.slots (.cons (t := 3) rfl (.cons (t := 6) rfl (.cons (t := 8) rfl (.cons (t := 9) rfl (.cons (t := 10) rfl (.cons (t := 44) rfl .nil)))))) ?_
          intro aa ww hL hH
          exact ⟨hL.sub (.cons (t := 3) rfl (.cons (t := 6) rfl (.cons (t := 8) rfl (.cons (t := 9) rfl (.cons (t := 10) rfl (.eq (t := 44) rfl (by first | (simp [hb4, hb5]; done) | (simp only [hb4, hb5, Bool.true_and, Bool.false_and, Bool.true_or, Bool.false_or, Bool.and_true, Bool.and_false]; done)) .nil)))))), hH.hs (.cell .head (.seg .here (.cell .head .all)))⟩
        · skip
          have phb5 := of_decide_eq_false hb5
          refine l_yesh rfl rfl rfl hb5 (o_val rfl rfl (r_move rfl rfl) ?_)
          refine l_yesh rfl rfl rfl hb5 (o_val rfl rfl (r_fieldAddr (k := 1) rfl rfl Try.underlying48 rfl Try.sizeOf3 rfl rfl) ?_)
          refine l_yesh rfl rfl rfl hb5 (o_val rfl rfl (r_load (v := .int .i64 (f2.size)) rfl Try.isAgg3 rfl List.mem_cons_self rfl) ?_)
          refine l_yesh rfl rfl rfl hb5 (o_val rfl rfl (r_load (v := .int .i64 (fr)) rfl Try.isAgg3 rfl (List.mem_cons_of_mem _ (List.mem_append_right _ List.mem_cons_self)) rfl) ?_)
          refine l_yesh rfl rfl rfl hb5 (o_val rfl rfl (r_sub rfl rfl rfl (by omega) (by omega)) ?_)
          refine l_yesh rfl rfl rfl hb5 (o_val rfl rfl (r_gt rfl rfl rfl) ?_)
          refine l_op rfl (o_val rfl rfl (r_pickfh rfl rfl hb5 rfl) ?_)
          refine l_nil ?_
          refine Then.slots (.cons (t := 3) rfl (.cons (t := 6) rfl (.cons (t := 8) rfl (.cons (t := 9) rfl (.cons (t := 10) rfl (.cons (t := 44) rfl .nil)))))) ?_
          intro aa ww hL hH
          exact ⟨hL.sub (.cons (t := 3) rfl (.cons (t := 6) rfl (.cons (t := 8) rfl (.cons (t := 9) rfl (.cons (t := 10) rfl (.eq (t := 44) rfl (by first | (simp [hb4, hb5]; done) | (simp only [hb4, hb5, Bool.true_and, Bool.false_and, Bool.true_or, Bool.false_or, Bool.and_true, Bool.and_false]; done)) .nil)))))), hH.hs (.cell .head (.seg .here (.cell .head .all)))⟩
    rintro aa ww ⟨hL, hH⟩
    refine Then.run hL hH ?_
    clear hL hH aa ww
    refine t_cond rfl (fun c44 => ?_) (fun c44 => ?_)
    · skip
      try simp only [Bool.or_eq_true, Bool.and_eq_true, decide_eq_true_eq, Bool.not_eq_true', decide_eq_false_iff_not] at c44
      refine t_seq ?_
      refine t_region ?_
      refine l_op rfl (o_val rfl rfl (r_assign rfl rfl) ?_)
      refine l_op rfl (o_val rfl rfl (r_assign rfl rfl) ?_)
      refine l_nil ?_
      refine e_next ?_
      refine t_ret ?_
      refine e_pass_ret ?_
      exact e_ret rfl (.tmp rfl (.tmp rfl .nil)) (by rw [seekRes_range hl (by omega)]; exact ⟨none, 0, 0, _, rfl, (PreL.eq (.cons (.app (.cons .refl)))), .nil⟩)
    · skip
      try simp only [Bool.or_eq_false_iff, Bool.and_eq_false_iff, decide_eq_false_iff_not, Bool.not_eq_false', decide_eq_true_eq] at c44
      have hin : (¬ min fr sz < 0 ∧ ¬ fr > l.size) ∧ ¬ sz > l.size - fr := by omega
      refine t_skip ?_
      refine e_next ?_
      refine t_seq ?_
      refine t_region ?_
      refine l_op rfl (o_val rfl rfl (r_assign rfl rfl) ?_)
      refine l_nil ?_
      refine e_next ?_
      refine t_seq ?_
      refine t_region ?_
      refine l_op rfl (o_val rfl rfl (r_fieldAddr (k := 3) rfl rfl Try.underlying48 rfl Try.sizeOf44 rfl rfl) ?_)
      refine l_op rfl (o_val rfl rfl (r_load (v := .slice f2.pa f2.pn f2.pc) rfl Try.isAgg44 rfl List.mem_cons_self rfl) ?_)
      refine l_op rfl (o_call rfl rfl rfl Try.call42 rfl (ends_c (ps := l.ps) (ds_app (fun p hp => (List.mem_cons_of_mem _ (List.mem_append_left _ hp))) (fun p hp => (List.mem_cons_of_mem _ (List.mem_append_right _ (List.mem_cons_of_mem _ (hD _ hp)))))) hf.at_ (by omega) htot) ?_)
      rintro _ _ ⟨a6, c6, X6, rfl, rfl, hs6⟩
      refine l_op rfl (o_alloc rfl rfl rfl Try.zeroValue88 rfl ?_)
      intro b7
      refine l_op rfl (o_store rfl rfl rfl rfl rfl Try.sizeOf88 .head rfl ?_)
      refine l_nil ?_
      refine e_next ?_
      refine t_seq ?_
      refine t_region ?_
      refine l_op rfl (o_val rfl rfl (r_load (v := .int .i64 (fr)) rfl Try.isAgg3 rfl (List.mem_cons_of_mem _ (List.mem_append_right _ (List.mem_cons_of_mem _ (List.mem_append_right _ List.mem_cons_self)))) rfl) ?_)
      refine l_op rfl (o_val rfl rfl (r_move rfl rfl) ?_)
      refine l_op rfl (o_val rfl rfl (r_add rfl rfl rfl (by omega) (by omega)) ?_)
      refine l_op rfl (o_val rfl rfl (r_assign rfl rfl) ?_)
      refine l_nil ?_
      refine e_next ?_
      refine t_seq ?_
      refine t_seq ?_
      refine t_region ?_
      refine l_op rfl (o_val rfl rfl (r_load (v := .slice a6 f2.pn c6) rfl Try.isAgg88 rfl List.mem_cons_self rfl) ?_)
      refine l_op rfl (o_val rfl rfl (r_len rfl rfl Try.underlying88) ?_)
      refine l_op rfl (o_val rfl rfl (r_makeFunc rfl rfl rfl) ?_)
      refine l_op rfl (o_call rfl rfl rfl Try.call43 rfl (search_c (D := ((b7, .cells ([.slice a6 f2.pn c6]).toArray 88 (0, 0)) :: ((b1, .cells ([.int .i64 (fr)]).toArray 3 (0, 0)) :: (X6 ++ (X2 ++ D))))) (ds_cons List.mem_cons_self (ds_cons (List.mem_cons_of_mem _ (List.mem_append_right _ (List.mem_cons_of_mem _ (List.mem_append_right _ List.mem_cons_self)))) (ds_app (fun p hp => (List.mem_cons_of_mem _ (List.mem_append_left _ hp))) (ds_app (fun p hp => (List.mem_cons_of_mem _ (List.mem_append_right _ (List.mem_cons_of_mem _ (List.mem_append_left _ hp))))) (fun p hp => (List.mem_cons_of_mem _ (List.mem_append_right _ (List.mem_cons_of_mem _ (List.mem_append_right _ (List.mem_cons_of_mem _ (hD _ hp))))))))))) List.mem_cons_self (List.mem_cons_of_mem _ List.mem_cons_self) (SliceAt.mono hs6 (fun p hp => (List.mem_cons_of_mem _ (List.mem_cons_of_mem _ hp)))) (fun p q x y h hx hy => (endsL_mono htot p q x y h hx hy).1) (by omega)) ?_)
      rintro _ _ ⟨i8, rfl, hi0, hi1, hlo, hhi, rfl⟩
      refine l_op rfl (o_val rfl rfl (r_assign rfl rfl) ?_)
      refine l_nil ?_
      refine e_next ?_
      refine t_block ?_
      obtain ⟨z0, hz0⟩ := sizeGo_take_some (k := Int.toNat i8) htot
      refine t_loop (fun (mz : Nat) aa ww => ∃ (i : Int) (z : Int) (vo : Value) (ls : List Part) (Xo : Heap), mz = (f2.pn - i.toNat) ∧ (0 ≤ i) ∧ (i ≤ f2.pn) ∧ (sizeGo 0 (l.ps.take i.toNat) = some z) ∧ (∀ q : Nat, i ≤ (q : Int) → ∀ x, (endsL 0 l.ps)[q]? = some x → x > fr) ∧ (Own 35 74 vo (ls.map encPart) Xo) ∧ (0 < sz → ls ++ partsGo fr (fr + sz) z (l.ps.drop i.toNat) = seekL l.ps fr sz) ∧ (¬ 0 < sz → ls = []) ∧ (ls.length ≤ i.toNat) ∧ Sl 99 [(3, .int .i64 (sz)), (6, .pointer (some ⟨b1, 0, none⟩)), (10, .pointer (some ⟨b3, 0, none⟩)), (12, vo), (13, .pointer (some ⟨b7, 0, none⟩)), (14, .int .i64 (fr + sz)), (15, .int .i64 (i))] aa ∧ Holds E (Xo ++ ((b7, .cells ([.slice a6 f2.pn c6]).toArray 88 (0, 0)) :: (X6 ++ ((b3, .cells (encFile f2).toArray 48 (0, 0)) :: (X2 ++ ((b1, .cells ([.int .i64 (fr)]).toArray 3 (0, 0)) :: H)))))) ww) ((f2.pn - Int.toNat i8)) ?_ ?_
      · intro aa ww hL hH
        exact ⟨i8, z0, .slice none 0 0, [], [], rfl, by omega, by omega, hz0, hhi, Own.nil _ _, seek_start hz0 (by omega) (fun q hq => hlo q (by omega)), (fun _ => rfl), (Nat.zero_le _), hL.sub (.cons (t := 3) rfl (.cons (t := 6) rfl (.cons (t := 10) rfl (.cons (t := 12) rfl (.cons (t := 13) rfl (.cons (t := 14) rfl (.cons (t := 15) rfl .nil))))))), hH.hs (.seg (S := []) .here (.cell .head (.seg .here (.cell .head (.seg .here (.cell .head .all))))))⟩
      · skip
        rintro mz aa ww ⟨i, z, vo, ls, Xo, hmz, h0, h1, hz, hhi, ho, hseek, hemp, hll, hL, hH⟩
        refine Then.run hL hH ?_
        clear hL hH aa ww
        have hzr := sizeGo_range (by omega) (by omega) hz
        refine t_seq ?_
        refine t_cut (fun aa ww => Sl 99 [(3, .int .i64 (sz)), (6, .pointer (some ⟨b1, 0, none⟩)), (10, .pointer (some ⟨b3, 0, none⟩)), (12, vo), (13, .pointer (some ⟨b7, 0, none⟩)), (14, .int .i64 (fr + sz)), (15, .int .i64 (i)), (62, .bool ((decide (i < (f2.pn : Int)) && decide (sz > 0))))] aa ∧ Holds E (Xo ++ ((b7, .cells ([.slice a6 f2.pn c6]).toArray 88 (0, 0)) :: (X6 ++ ((b3, .cells (encFile f2).toArray 48 (0, 0)) :: (X2 ++ ((b1, .cells ([.int .i64 (fr)]).toArray 3 (0, 0)) :: H)))))) ww) ?_ ?_
        · skip
          refine t_region ?_
          refine l_op rfl (o_val rfl rfl (r_move rfl rfl) ?_)
          refine l_op rfl (o_val rfl rfl (r_load (v := .slice a6 f2.pn c6) rfl Try.isAgg88 rfl (List.mem_append_right _ List.mem_cons_self) rfl) ?_)
          refine l_op rfl (o_val rfl rfl (r_len rfl rfl Try.underlying88) ?_)
          refine l_op rfl (o_val rfl rfl (r_lt rfl rfl rfl) ?_)
          refine l_op rfl (o_val rfl rfl (r_move rfl rfl) ?_)
          refine t_bool (decide (i < (f2.pn : Int))) (fun hb9 => ?_) (fun hb9 => ?_)
          · skip
            have phb9 := of_decide_eq_true hb9
            refine l_yesh rfl rfl rfl hb9 (o_val rfl rfl (r_move rfl rfl) ?_)
            refine l_yesh rfl rfl rfl hb9 (o_val rfl rfl (r_gt rfl rfl rfl) ?_)
            refine l_op rfl (o_val rfl rfl (r_pickth rfl rfl hb9 rfl) ?_)
            refine l_nil ?_
            intro aa ww hL hH
            exact ⟨hL.sub (.cons (t := 3) rfl (.cons (t := 6) rfl (.cons (t := 10) rfl (.cons (t := 12) rfl (.cons (t := 13) rfl (.cons (t := 14) rfl (.cons (t := 15) rfl (.eq (t := 62) rfl (by first | (simp [hb9]; done) | (simp only [hb9, Bool.true_and, Bool.false_and, Bool.true_or, Bool.false_or, Bool.and_true, Bool.and_false]; done)) .nil)))))))), hH.hs (.seg .here (.cell .head (.seg .here (.cell .head (.seg .here (.cell .head .all))))))⟩
          · skip
            have phb9 := of_decide_eq_false hb9
            refine l_noh rfl rfl rfl hb9 rfl rfl ?_
            refine l_noh rfl rfl rfl hb9 rfl rfl ?_
            refine l_op rfl (o_val rfl rfl (r_pickfh rfl rfl hb9 rfl) ?_)
            refine l_nil ?_
            intro aa ww hL hH
            exact ⟨hL.sub (.cons (t := 3) rfl (.cons (t := 6) rfl (.cons (t := 10) rfl (.cons (t := 12) rfl (.cons (t := 13) rfl (.cons (t := 14) rfl (.cons (t := 15) rfl (.eq (t := 62) rfl (by first | (simp [hb9]; done) | (simp only [hb9, Bool.true_and, Bool.false_and, Bool.true_or, Bool.false_or, Bool.and_true, Bool.and_false]; done)) .nil)))))))), hH.hs (.seg .here (.cell .head (.seg .here (.cell .head (.seg .here (.cell .head .all))))))⟩
        rintro aa ww ⟨hL, hH⟩
        refine Then.run hL hH ?_
        clear hL hH aa ww
        refine t_cond rfl (fun c62 => ?_) (fun c62 => ?_)
        · skip
          try simp only [Bool.or_eq_true, Bool.and_eq_true, decide_eq_true_eq, Bool.not_eq_true', decide_eq_false_iff_not] at c62
          refine t_skip ?_
          refine e_next ?_
          refine t_seq ?_
          refine t_block ?_
          refine t_seq ?_
          refine t_region ?_
          refine l_op rfl (o_val rfl rfl (r_fieldAddr (k := 3) rfl rfl Try.underlying48 rfl Try.sizeOf44 rfl rfl) ?_)
          refine l_op rfl (o_val rfl rfl (r_load (v := .slice f2.pa f2.pn f2.pc) rfl Try.isAgg44 rfl (List.mem_append_right _ (List.mem_cons_of_mem _ (List.mem_append_right _ List.mem_cons_self))) rfl) ?_)
          refine l_op rfl (o_val rfl rfl (r_move rfl rfl) ?_)
          obtain ⟨b10, o10, cs10, T10, f10, ha10, hm10, hr10⟩ := SliceAt.opn hf.at_ (by omega)
          obtain ⟨p1, hx1⟩ : ∃ x, l.ps[Int.toNat (i)]? = some x := getSome (by have := hf.at_.len; omega)
          have hpn := sizeGo_piece htot hx1
          have hzn := sizeGo_take_next htot hz hx1
          have hznr := sizeGo_range (by omega) (by omega) hzn
          refine l_op rfl (o_val rfl rfl (r_indexAddr rfl rfl ha10 rfl Try.underlying44 Try.sizeOf66 (by omega) (by omega)) ?_)
          refine l_op rfl (o_val rfl rfl (r_loadAgg rfl Try.isAgg66 Try.sizeOf66 rfl ((ds_app (fun p hp => (List.mem_append_right _ (List.mem_cons_of_mem _ (List.mem_append_right _ (List.mem_cons_of_mem _ (List.mem_append_left _ hp)))))) (fun p hp => (List.mem_append_right _ (List.mem_cons_of_mem _ (List.mem_append_right _ (List.mem_cons_of_mem _ (List.mem_append_right _ (List.mem_cons_of_mem _ (hD _ hp))))))))) _ hm10) (Row.elem hr10 hx1) rfl) ?_)
          refine l_op rfl (o_alloc rfl rfl rfl Try.zeroValue66 rfl ?_)
          intro b11
          refine l_op rfl (o_storeAgg (ys := encPiece p1) rfl rfl rfl rfl rfl Try.sizeOf66 .head rfl ?_)
          refine l_nil ?_
          refine e_next ?_
          refine t_seq ?_
          refine t_draw (n := 8) .all rfl (by kernel_rfl) ?_
          refine a_take (i := 0) rfl rfl rfl rfl (by kernel_rfl) (by kernel_rfl) (by kernel_rfl) (fun _ _ _ h => h) .all (r_load (v := .slice a6 f2.pn c6) rfl Try.isAgg88 rfl (List.mem_cons_of_mem _ (List.mem_append_right _ List.mem_cons_self)) rfl) ?_
          refine a_take (i := 1) rfl rfl rfl rfl (by kernel_rfl) (by kernel_rfl) (by kernel_rfl) (fun _ _ _ h => h) .all (r_move rfl rfl) ?_
          obtain ⟨b12, o12, cs12, T12, f12, ha12, hm12, hr12⟩ := SliceAt.opn hs6 (by omega)
          obtain ⟨x2, hx2⟩ : ∃ x, (endsL 0 l.ps)[Int.toNat (i)]? = some x := getSome (by have := hs6.len; omega)
          have hxe : x2 = z + p1.n := Option.some.inj (hx2.symm.trans (endsL_get hz hx1))
          have hxf := hhi i.toNat (by omega) _ hx2
          refine a_take (i := 2) rfl rfl rfl rfl (by kernel_rfl) (by kernel_rfl) (by kernel_rfl) (fun _ _ _ h => h) .all (r_indexAddr rfl rfl ha12 rfl Try.underlying88 Try.sizeOf3 (by omega) (by omega)) ?_
          refine a_take (i := 3) rfl rfl rfl rfl (by kernel_rfl) (by kernel_rfl) (by kernel_rfl) (fun _ _ _ h => h) .all (r_load (v := .int .i64 (x2)) rfl Try.isAgg3 rfl ((ds_app (fun p hp => (List.mem_cons_of_mem _ (List.mem_append_right _ (List.mem_cons_of_mem _ (List.mem_append_left _ hp))))) (ds_app (fun p hp => (List.mem_cons_of_mem _ (List.mem_append_right _ (List.mem_cons_of_mem _ (List.mem_append_right _ (List.mem_cons_of_mem _ (List.mem_append_left _ hp))))))) (fun p hp => (List.mem_cons_of_mem _ (List.mem_append_right _ (List.mem_cons_of_mem _ (List.mem_append_right _ (List.mem_cons_of_mem _ (List.mem_append_right _ (List.mem_cons_of_mem _ (hD _ hp))))))))))) _ hm12) (At.get0 (Row.elem hr12 hx2) rfl)) ?_
          refine a_take (i := 4) rfl rfl rfl rfl (by kernel_rfl) (by kernel_rfl) (by kernel_rfl) (fun _ _ _ h => h) .all (r_fieldAddr (k := 32) rfl rfl Try.underlying66 rfl Try.sizeOf3 rfl rfl) ?_
          refine a_take (i := 5) rfl rfl rfl rfl (by kernel_rfl) (by kernel_rfl) (by kernel_rfl) (fun _ _ _ h => h) .all (r_load (v := .int .i64 (p1.n)) rfl Try.isAgg3 rfl List.mem_cons_self rfl) ?_
          refine a_take (i := 6) rfl rfl rfl rfl (by kernel_rfl) (by kernel_rfl) (by kernel_rfl) (fun _ _ _ h => h) .all (r_sub rfl rfl rfl (by omega) (by omega)) ?_
          refine a_take (i := 7) rfl rfl rfl rfl (by kernel_rfl) (by kernel_rfl) (by kernel_rfl) (fun _ _ _ h => h) .all (r_assign rfl rfl) ?_
          refine a_done (by kernel_rfl) ?_
          refine e_next ?_
          refine t_seq ?_
          refine t_seq ?_
          refine t_region ?_
          refine l_op rfl (o_val rfl rfl (r_move rfl rfl) ?_)
          refine l_op rfl (o_val rfl rfl (r_move rfl rfl) ?_)
          refine l_op rfl (o_val rfl rfl (r_ge rfl rfl rfl) ?_)
          refine l_nil ?_
          refine Then.slots (.cons (t := 3) rfl (.cons (t := 6) rfl (.cons (t := 10) rfl (.cons (t := 12) rfl (.cons (t := 13) rfl (.cons (t := 14) rfl (.cons (t := 15) rfl (.cons (t := 16) rfl (.cons (t := 17) rfl (.cons (t := 79) rfl .nil)))))))))) ?_
          refine e_next ?_
          refine t_dec rfl (fun c79 => ?_) (fun c79 => ?_)
          · skip
            refine t_exit ?_
            refine e_pass_exit ?_
            refine e_block_on rfl ?_
            refine e_pass_exit ?_
            refine e_pass_exit ?_
            refine e_block_here ?_
            refine e_next ?_
            refine t_seq ?_
            refine t_region ?_
            refine l_op rfl (o_val rfl rfl (r_move rfl rfl) ?_)
            refine l_op rfl (o_val rfl rfl (r_assign rfl rfl) ?_)
            refine l_op rfl (o_val rfl rfl (r_assign rfl rfl) ?_)
            refine l_nil ?_
            refine e_next ?_
            refine t_ret ?_
            exact e_ret rfl (.tmp rfl (.tmp rfl .nil)) (by rw [seekRes_ok hl hin]; exact own_ret ho (PreL.eq (.cons (.app (.cons (.app (.cons (.app (.cons .refl)))))))) (fun p hp => (List.mem_append_left _ (List.mem_cons_of_mem _ (List.mem_append_left _ hp)))) (seek_stop (z := z) (by omega) hseek hx1 (by omega) c79 c62.2))
          · skip
            refine t_skip ?_
            refine e_next ?_
            refine t_region ?_
            refine l_op rfl (o_val rfl rfl (r_move rfl rfl) ?_)
            refine l_op rfl (o_val rfl rfl (r_fieldAddr (k := 0) rfl rfl Try.underlying66 rfl Try.sizeOf43 rfl rfl) ?_)
            refine l_op rfl (o_val rfl rfl (r_loadAgg rfl Try.isAgg43 Try.sizeOf43 rfl List.mem_cons_self (At.sub (ys := encDig p1.d) (At.self _) 0 rfl) rfl) ?_)
            refine l_op rfl (o_val rfl rfl (r_fieldAddr (k := 32) rfl rfl Try.underlying66 rfl Try.sizeOf3 rfl rfl) ?_)
            refine l_op rfl (o_val rfl rfl (r_load (v := .int .i64 (p1.n)) rfl Try.isAgg3 rfl List.mem_cons_self rfl) ?_)
            refine l_op rfl (o_val rfl rfl (r_load (v := .int .i64 (fr)) rfl Try.isAgg3 rfl (List.mem_cons_of_mem _ (List.mem_append_right _ (List.mem_cons_of_mem _ (List.mem_append_right _ (List.mem_cons_of_mem _ (List.mem_append_right _ List.mem_cons_self)))))) rfl) ?_)
            refine l_op rfl (o_val rfl rfl (r_move rfl rfl) ?_)
            refine l_op rfl (o_val rfl rfl (r_sub rfl rfl rfl (by omega) (by omega)) ?_)
            refine l_op rfl (o_val rfl rfl (r_max rfl rfl rfl) ?_)
            refine l_op rfl (o_val rfl rfl (r_move rfl rfl) ?_)
            refine l_op rfl (o_val rfl rfl (r_move rfl rfl) ?_)
            refine l_op rfl (o_val rfl rfl (r_sub rfl rfl rfl (by omega) (by omega)) ?_)
            refine l_op rfl (o_val rfl rfl (r_fieldAddr (k := 32) rfl rfl Try.underlying66 rfl Try.sizeOf3 rfl rfl) ?_)
            refine l_op rfl (o_val rfl rfl (r_load (v := .int .i64 (p1.n)) rfl Try.isAgg3 rfl List.mem_cons_self rfl) ?_)
            refine l_op rfl (o_val rfl rfl (r_min rfl rfl rfl) ?_)
            refine l_op rfl (o_val rfl rfl (r_build (cells := encPart (⟨p1.d, p1.n, (max (fr - (x2 - p1.n)) (0)), (min ((fr + sz) - (x2 - p1.n)) (p1.n))⟩ : Part)) rfl rfl (by kernel_rfl)) ?_)
            refine l_op rfl (o_slice1 rfl rfl rfl rfl rfl Try.underlying59 Try.sizeOf74 Try.zeroValue74 rfl rfl (by omega) ?_)
            intro b13
            refine l_op rfl (o_appendS (enc := encPart) (xs := ls) (l := [(⟨p1.d, p1.n, (max (fr - (x2 - p1.n)) (0)), (min ((fr + sz) - (x2 - p1.n)) (p1.n))⟩ : Part)]) rfl rfl rfl rfl rfl Try.underlying59 Try.type74 rfl rfl rfl rfl (fun _ => rfl) (fun _ => rfl) ho (.tail (.tail .here)) (sliceAt_one (enc := encPart) (a := (⟨p1.d, p1.n, (max (fr - (x2 - p1.n)) (0)), (min ((fr + sz) - (x2 - p1.n)) (p1.n))⟩ : Part)) rfl List.mem_cons_self) (by show (_ + _) * 56 ≤ _; (try simp only [List.length_nil, List.length_cons, List.length_append, List.length_map, List.length_take, endsL_length]); omega) (by (try simp only [List.length_nil, List.length_cons, List.length_append, List.length_map, List.length_take, endsL_length]); omega) ?_)
            intro v14 X14 ho14
            refine l_op rfl (o_val rfl rfl (r_assign rfl rfl) ?_)
            refine l_nil ?_
            refine Then.slots (.cons (t := 3) rfl (.cons (t := 6) rfl (.cons (t := 10) rfl (.cons (t := 12) rfl (.cons (t := 13) rfl (.cons (t := 14) rfl (.cons (t := 15) rfl .nil))))))) ?_
            refine e_block _ ?_
            refine e_next ?_
            refine t_region ?_
            refine l_op rfl (o_val rfl rfl (r_move rfl rfl) ?_)
            refine l_op rfl (o_val rfl rfl (r_add rfl rfl rfl (by omega) (by omega)) ?_)
            refine l_op rfl (o_val rfl rfl (r_assign rfl rfl) ?_)
            refine l_nil ?_
            intro aa ww hL hH
            exact ⟨_, by omega, i + 1, z + p1.n, v14, _, X14, rfl, by omega, by omega, by rw [show (i + 1).toNat = i.toNat + 1 by omega]; exact hzn, (fun q hq => hhi q (by omega)), ho14, by rw [show (i + 1).toNat = i.toNat + 1 by omega]; exact seek_step (by omega) hseek hx1 (by omega) (by omega), (fun h => absurd c62.2 h), (by rw [List.length_append, List.length_singleton]; omega), hL.sub (.cons (t := 3) rfl (.cons (t := 6) rfl (.cons (t := 10) rfl (.cons (t := 12) rfl (.cons (t := 13) rfl (.cons (t := 14) rfl (.cons (t := 15) rfl .nil))))))), hH.hs (.seg .here (.cell (.tail (.tail .head)) (.seg (.tail (.tail .here)) (.cell (.tail (.tail .head)) (.seg (.tail (.tail .here)) (.cell (.tail (.tail .head)) (.drop (.drop .all))))))))⟩
        · skip
          try simp only [Bool.or_eq_false_iff, Bool.and_eq_false_iff, decide_eq_false_iff_not, Bool.not_eq_false', decide_eq_true_eq] at c62
          refine t_exit ?_
          refine e_pass_exit ?_
          refine e_pass_exit ?_
          refine e_block_here ?_
          refine e_next ?_
          refine t_seq ?_
          refine t_region ?_
          refine l_op rfl (o_val rfl rfl (r_move rfl rfl) ?_)
          refine l_op rfl (o_val rfl rfl (r_assign rfl rfl) ?_)
          refine l_op rfl (o_val rfl rfl (r_assign rfl rfl) ?_)
          refine l_nil ?_
          refine e_next ?_
          refine t_ret ?_
          exact e_ret rfl (.tmp rfl (.tmp rfl .nil)) (by rw [seekRes_ok hl hin]; exact own_ret ho (PreL.eq (.app (.cons (.app (.cons (.app (.cons .refl))))))) (fun p hp => (List.mem_append_left _ (List.mem_append_left _ hp))) (seek_end hseek hemp (by omega)))

set_option maxRecDepth 100000 in
theorem file_c {E : Env} {H D : Heap} (hD : ∀ p, p ∈ D → p ∈ H) :
    Fn Try.prog 30 [] E H (fun v H2 => ∃ b X, v = .agg (encRec (fileR b)).toArray ∧ H2 = X ++ H ∧ SliceAt (X ++ D) encPiece 33 (some ⟨b, 0, none⟩) 3 3 filePs) := by
  refine Fn.of_body (N := 6) Try.func30 rfl rfl rfl ?_
  refine t_seq ?_
  refine t_region ?_
  refine l_op rfl (o_alloc rfl rfl rfl Try.zeroValue46 rfl ?_)
  intro b1
  refine l_nil ?_
  refine e_next ?_
  refine t_seq ?_
  refine t_region ?_
  refine l_op rfl (o_val rfl rfl (r_build (cells := encPiece (⟨Dig.zero, 3⟩ : Piece)) rfl rfl (by kernel_rfl)) ?_)
  refine l_op rfl (o_val rfl rfl (r_build (cells := encPiece (⟨Dig.zero, 5⟩ : Piece)) rfl rfl (by kernel_rfl)) ?_)
  refine l_op rfl (o_val rfl rfl (r_build (cells := encPiece (⟨Dig.zero, 2⟩ : Piece)) rfl rfl (by kernel_rfl)) ?_)
  refine l_op rfl (o_sliceN (enc := encPiece) (l := [(⟨Dig.zero, 3⟩ : Piece), (⟨Dig.zero, 5⟩ : Piece), (⟨Dig.zero, 2⟩ : Piece)]) (sz := 33) (vs := [.agg (encPiece (⟨Dig.zero, 3⟩ : Piece)).toArray, .agg (encPiece (⟨Dig.zero, 5⟩ : Piece)).toArray, .agg (encPiece (⟨Dig.zero, 2⟩ : Piece)).toArray]) rfl rfl rfl rfl rfl rfl (fun _ => rfl) Try.underlying44 Try.sizeOf66 Try.zeroValue66 rfl rfl ?_)
  intro b2
  have hslb2 : SliceAt [(b2, .cells (([(⟨Dig.zero, 3⟩ : Piece), (⟨Dig.zero, 5⟩ : Piece), (⟨Dig.zero, 2⟩ : Piece)].map encPiece).flatten).toArray 66 (0, 0))] encPiece 33 (some ⟨b2, 0, none⟩) 3 3 [(⟨Dig.zero, 3⟩ : Piece), (⟨Dig.zero, 5⟩ : Piece), (⟨Dig.zero, 2⟩ : Piece)] := sliceAt_all (fun _ => rfl) rfl List.mem_cons_self
  refine l_op rfl (o_val rfl rfl (r_build (cells := encRec (⟨1, 1, Dig.zero, 2, 0, (⟨#[97]⟩ : ByteArray), (some ⟨b2, 0, none⟩), 3, 3⟩ : Rec)) rfl rfl (by kernel_rfl)) ?_)
  refine l_op rfl (o_storeAgg (ys := encRec (⟨1, 1, Dig.zero, 2, 0, (⟨#[97]⟩ : ByteArray), (some ⟨b2, 0, none⟩), 3, 3⟩ : Rec)) rfl rfl rfl rfl rfl Try.sizeOf46 (.tail .head) rfl ?_)
  refine l_nil ?_
  refine e_next ?_
  refine t_ret ?_
  exact e_ret rfl (.agg rfl Try.isAgg46 Try.sizeOf46 List.mem_cons_self (At.self _) rfl .nil) ⟨_, _, rfl, (PreL.eq (.cons (.cons .refl))), hslb2.mono (ds_cons (List.mem_append_left _ (List.mem_cons_of_mem _ List.mem_cons_self)) ds_nil)⟩

theorem of_ok {E : Env} {H D : Heap} (hD : ∀ p, p ∈ D → p ∈ H) {a : Option Addr} {n c : Nat} {rl : List RP2} {lm : LMap} (hrl : SliceAt D encRecP 38 a n c rl) (hra : RecsAt D rl) (hn : n ≤ 1000000) (hrun : runL [] rl = some lm) :
    Fn Try.prog 8 [.slice a n c] E H (fun v H2 => ∃ (bn bm : Nat) (X : Heap) (es : Array MapEntry) (c : Nat) (m : FMap), LM m = lm ∧ v = .tuple #[.pointer (some ⟨bn, 0, none⟩), .int .i64 n, .int .i64 0] ∧ H2 = X ++ ((bm, .map es c) :: H) ∧ IsMap es c fileV m ∧ FilesAt (X ++ D) m ∧ (bn, .cells ([.map (some bm)] : List Value).toArray 57 (0, 0)) ∈ X ++ D) := by
  refine (of_c hD hrl hra hn).mono ?_
  rintro v H2 (⟨k, m, x, X, h1, h2, h3, _, _⟩ | ⟨bn, bm, X, es, c, m, h1, h2, h3, h4, h5, h6⟩)
  · rw [runL_bad h1 h2 h3] at hrun; cases hrun
  · rw [hrun] at h1
    injection h1 with h1
    exact ⟨bn, bm, X, es, c, m, h1.symm, h2, h3, h4, h5, h6⟩
theorem seek_r {E : Env} {H D : Heap} (hD : ∀ p, p ∈ D → p ∈ H) {bn bm : Nat} (hbn : (bn, .cells ([.map (some bm)] : List Value).toArray 57 (0, 0)) ∈ D) {es : Array MapEntry} {c : Nat} {m : FMap} (him : IsMap es c fileV m) (hbm : (bm, .map es c) ∈ H) (hfa : FilesAt D m) {k : ByteArray} {fr sz : Int} {pl : List Part} {e : Int} (hres : seekRes (LM m) k fr sz = (pl, e)) :
    Fn Try.prog 21 [.pointer (some ⟨bn, 0, none⟩), .string k, .int .i64 fr, .int .i64 sz] E H (fun v H2 => ∃ a2 c2 X, v = .tuple #[.slice a2 pl.length c2, .int .i64 e] ∧ H2 = X ++ H ∧ SliceAt (X ++ D) encPart 35 a2 pl.length c2 pl) := by
  have h := seek_c (E := E) hD hbn him hbm hfa (k := k) (fr := fr) (sz := sz)
  rw [hres] at h
  refine h.mono ?_
  rintro v H2 ⟨a2, n2, c2, X, h1, h2, h3⟩
  obtain rfl := h3.len
  exact ⟨a2, c2, X, h1, h2, h3⟩

set_option maxRecDepth 100000 in
theorem alive_c {E : Env} {H : Heap} :
    Fn Try.prog 12 [] E H (fun v H2 => v = .bool true ∧ ∃ X, H2 = X ++ H) := by
  refine Fn.of_body (N := 74) Try.func12 rfl rfl rfl ?_
  refine t_seq ?_
  refine t_region ?_
  refine l_op rfl (o_val rfl rfl (r_assign rfl rfl) ?_)
  refine l_nil ?_
  refine e_next ?_
  refine t_seq ?_
  refine t_region ?_
  refine l_op rfl (o_call rfl rfl rfl Try.call30 rfl (file_c (D := []) ds_nil) ?_)
  rintro _ _ ⟨b1, X1, rfl, rfl, hs1⟩
  refine l_op rfl (o_slice1 rfl rfl rfl rfl rfl Try.underlying22 Try.sizeOf46 Try.zeroValue46 rfl rfl (by omega) ?_)
  intro b2
  refine l_op rfl (o_call rfl rfl rfl Try.call8 rfl (of_ok (rl := [(fileR b1, filePs)]) (D := ((b2, .cells (encRec (fileR b1)).toArray 46 (0, 0)) :: (X1 ++ []))) (ds_cons List.mem_cons_self (ds_app (fun p hp => (List.mem_cons_of_mem _ (List.mem_append_left _ hp))) ds_nil)) (sliceAt_one (enc := encRecP) (a := (fileR b1, filePs)) rfl List.mem_cons_self) (fun x hx => by simp only [List.mem_singleton] at hx; subst hx; exact SliceAt.mono hs1 (fun p hp => (List.mem_cons_of_mem _ hp))) (by omega) (alive_run b1)) ?_)
  rintro _ _ ⟨bn3, bm3, X3, es3, mc3, m3, hlm, rfl, rfl, him3, hfa3, hbn3⟩
  refine l_op rfl (o_val rfl rfl (r_move rfl rfl) ?_)
  refine l_op rfl (o_val rfl rfl (r_extract (v := .pointer (some ⟨bn3, 0, none⟩)) rfl rfl rfl) ?_)
  refine l_op rfl (o_val rfl rfl (r_extract (v := .int .i64 (1)) rfl rfl rfl) ?_)
  refine l_op rfl (o_val rfl rfl (r_extract (v := .int .i64 (0)) rfl rfl rfl) ?_)
  refine l_op rfl (o_val rfl rfl (r_assign rfl rfl) ?_)
  refine l_op rfl (o_val rfl rfl (r_assign rfl rfl) ?_)
  refine l_op rfl (o_val rfl rfl (r_assign rfl rfl) ?_)
  refine l_nil ?_
  refine e_next ?_
  refine t_seq ?_
  refine t_seq ?_
  refine t_region ?_
  refine l_op rfl (o_val rfl rfl (r_move rfl rfl) ?_)
  refine l_op rfl (o_val rfl rfl (Run.eq (v' := .bool false) (r_ne rfl rfl rfl) (by rfl)) ?_)
  refine l_op rfl (o_val rfl rfl (r_move rfl rfl) ?_)
  refine l_yes rfl rfl rfl (o_val rfl rfl (r_move rfl rfl) ?_)
  refine l_yes rfl rfl rfl (o_val rfl rfl (r_eqv rfl rfl rfl rfl rfl (q_ptr_nil Try.underlying24)) ?_)
  refine l_op rfl (o_val rfl rfl (r_pickf rfl rfl rfl) ?_)
  refine l_op rfl (o_val rfl rfl (r_move rfl rfl) ?_)
  refine l_yes rfl rfl rfl (o_val rfl rfl (r_move rfl rfl) ?_)
  refine l_yes rfl rfl rfl (o_val rfl rfl (Run.eq (v' := .bool false) (r_ne rfl rfl rfl) (by rfl)) ?_)
  refine l_op rfl (o_val rfl rfl (r_pickf rfl rfl rfl) ?_)
  refine l_nil ?_
  refine e_next ?_
  refine t_false rfl ?_
  refine t_skip ?_
  refine e_next ?_
  refine t_seq ?_
  refine t_region ?_
  refine l_op rfl (o_val rfl rfl (r_move rfl rfl) ?_)
  refine l_op rfl (o_call rfl rfl rfl Try.call21 rfl (seek_r (k := (⟨#[97]⟩ : ByteArray)) (fr := 2) (sz := 4) (pl := [⟨Dig.zero, 3, 2, 3⟩, ⟨Dig.zero, 5, 0, 3⟩]) (D := (X3 ++ ((b2, .cells (encRec (fileR b1)).toArray 46 (0, 0)) :: (X1 ++ [])))) (ds_app (fun p hp => (List.mem_append_left _ hp)) (ds_cons (List.mem_append_right _ (List.mem_cons_of_mem _ List.mem_cons_self)) (ds_app (fun p hp => (List.mem_append_right _ (List.mem_cons_of_mem _ (List.mem_cons_of_mem _ (List.mem_append_left _ hp))))) ds_nil))) hbn3 him3 (List.mem_append_right _ List.mem_cons_self) hfa3 (by rw [hlm]; exact alive_seek1)) ?_)
  rintro _ _ ⟨a4, c4, X4, rfl, rfl, hsk4⟩
  refine l_op rfl (o_val rfl rfl (r_move rfl rfl) ?_)
  refine l_op rfl (o_val rfl rfl (r_extract (v := .slice a4 2 c4) rfl rfl rfl) ?_)
  refine l_op rfl (o_val rfl rfl (r_extract (v := .int .i64 (0)) rfl rfl rfl) ?_)
  refine l_op rfl (o_val rfl rfl (r_assign rfl rfl) ?_)
  refine l_op rfl (o_val rfl rfl (r_assign rfl rfl) ?_)
  refine l_nil ?_
  refine Then.slots (.cons (t := 0) rfl (.cons (t := 1) rfl (.cons (t := 4) rfl (.cons (t := 5) rfl .nil)))) ?_
  refine e_next ?_
  refine t_seq ?_
  refine t_region ?_
  refine l_op rfl (o_val rfl rfl (r_move rfl rfl) ?_)
  refine l_op rfl (o_call rfl rfl rfl Try.call21 rfl (seek_r (k := (⟨#[97]⟩ : ByteArray)) (fr := 10) (sz := 1) (pl := []) (D := (X4 ++ (X3 ++ ((b2, .cells (encRec (fileR b1)).toArray 46 (0, 0)) :: (X1 ++ []))))) (ds_app (fun p hp => (List.mem_append_left _ hp)) (ds_app (fun p hp => (List.mem_append_right _ (List.mem_append_left _ hp))) (ds_cons (List.mem_append_right _ (List.mem_append_right _ (List.mem_cons_of_mem _ List.mem_cons_self))) (ds_app (fun p hp => (List.mem_append_right _ (List.mem_append_right _ (List.mem_cons_of_mem _ (List.mem_cons_of_mem _ (List.mem_append_left _ hp)))))) ds_nil)))) ((fun p hp => (List.mem_append_right _ hp)) _ hbn3) him3 (List.mem_append_right _ (List.mem_append_right _ List.mem_cons_self)) (FilesAt.mono hfa3 (fun p hp => (List.mem_append_right _ hp))) (by rw [hlm]; exact alive_seek2)) ?_)
  rintro _ _ ⟨a5, c5, X5, rfl, rfl, hsk5⟩
  refine l_op rfl (o_val rfl rfl (r_move rfl rfl) ?_)
  refine l_op rfl (o_val rfl rfl (r_extract (v := .slice a5 0 c5) rfl rfl rfl) ?_)
  refine l_op rfl (o_val rfl rfl (r_extract (v := .int .i64 (5)) rfl rfl rfl) ?_)
  refine l_op rfl (o_val rfl rfl (r_assign rfl rfl) ?_)
  refine l_op rfl (o_val rfl rfl (r_assign rfl rfl) ?_)
  refine l_nil ?_
  refine e_next ?_
  refine t_seq ?_
  refine t_region ?_
  refine l_op rfl (o_val rfl rfl (r_move rfl rfl) ?_)
  refine l_op rfl (o_val rfl rfl (Run.eq (v' := .bool true) (r_eq rfl rfl rfl) (by rfl)) ?_)
  refine l_op rfl (o_val rfl rfl (r_move rfl rfl) ?_)
  refine l_yes rfl rfl rfl (o_val rfl rfl (r_move rfl rfl) ?_)
  refine l_yes rfl rfl rfl (o_val rfl rfl (Run.eq (v' := .bool true) (r_eq rfl rfl rfl) (by rfl)) ?_)
  refine l_op rfl (o_val rfl rfl (r_pickt rfl rfl rfl) ?_)
  refine l_op rfl (o_val rfl rfl (r_move rfl rfl) ?_)
  refine l_yes rfl rfl rfl (o_val rfl rfl (r_move rfl rfl) ?_)
  refine l_yes rfl rfl rfl (o_val rfl rfl (r_len rfl rfl Try.underlying59) ?_)
  refine l_yes rfl rfl rfl (o_val rfl rfl (Run.eq (v' := .bool true) (r_eq rfl rfl rfl) (by rfl)) ?_)
  refine l_op rfl (o_val rfl rfl (r_pickt rfl rfl rfl) ?_)
  refine l_op rfl (o_val rfl rfl (r_move rfl rfl) ?_)
  refine l_yes rfl rfl rfl (o_val rfl rfl (r_move rfl rfl) ?_)
  obtain ⟨b6, o6, cs6, T6, f6, ha6, hm6, hr6⟩ := SliceAt.opn hsk4 (by decide)
  refine l_yes rfl rfl rfl (o_val rfl rfl (r_indexAddr rfl rfl ha6 rfl Try.underlying59 Try.sizeOf74 (by decide) (by decide)) ?_)
  refine l_yes rfl rfl rfl (o_val rfl rfl (r_fieldAddr (k := 33) rfl rfl Try.underlying74 rfl Try.sizeOf3 rfl rfl) ?_)
  refine l_yes rfl rfl rfl (o_val rfl rfl (r_load (v := .int .i64 (2)) rfl Try.isAgg3 rfl ((ds_app (fun p hp => (List.mem_append_right _ (List.mem_append_left _ hp))) (ds_app (fun p hp => (List.mem_append_right _ (List.mem_append_right _ (List.mem_append_left _ hp)))) (ds_cons (List.mem_append_right _ (List.mem_append_right _ (List.mem_append_right _ (List.mem_cons_of_mem _ List.mem_cons_self)))) (ds_app (fun p hp => (List.mem_append_right _ (List.mem_append_right _ (List.mem_append_right _ (List.mem_cons_of_mem _ (List.mem_cons_of_mem _ (List.mem_append_left _ hp))))))) ds_nil)))) _ hm6) (At.get (Row.elem hr6 rfl) (j := 33) rfl)) ?_)
  refine l_yes rfl rfl rfl (o_val rfl rfl (Run.eq (v' := .bool true) (r_eq rfl rfl rfl) (by rfl)) ?_)
  refine l_op rfl (o_val rfl rfl (r_pickt rfl rfl rfl) ?_)
  refine l_op rfl (o_val rfl rfl (r_move rfl rfl) ?_)
  refine l_yes rfl rfl rfl (o_val rfl rfl (r_move rfl rfl) ?_)
  refine l_yes rfl rfl rfl (o_val rfl rfl (r_indexAddr rfl rfl ha6 rfl Try.underlying59 Try.sizeOf74 (by decide) (by decide)) ?_)
  refine l_yes rfl rfl rfl (o_val rfl rfl (r_fieldAddr (k := 34) rfl rfl Try.underlying74 rfl Try.sizeOf3 rfl rfl) ?_)
  refine l_yes rfl rfl rfl (o_val rfl rfl (r_load (v := .int .i64 (3)) rfl Try.isAgg3 rfl ((ds_app (fun p hp => (List.mem_append_right _ (List.mem_append_left _ hp))) (ds_app (fun p hp => (List.mem_append_right _ (List.mem_append_right _ (List.mem_append_left _ hp)))) (ds_cons (List.mem_append_right _ (List.mem_append_right _ (List.mem_append_right _ (List.mem_cons_of_mem _ List.mem_cons_self)))) (ds_app (fun p hp => (List.mem_append_right _ (List.mem_append_right _ (List.mem_append_right _ (List.mem_cons_of_mem _ (List.mem_cons_of_mem _ (List.mem_append_left _ hp))))))) ds_nil)))) _ hm6) (At.get (Row.elem hr6 rfl) (j := 34) rfl)) ?_)
  refine l_yes rfl rfl rfl (o_val rfl rfl (Run.eq (v' := .bool true) (r_eq rfl rfl rfl) (by rfl)) ?_)
  refine l_op rfl (o_val rfl rfl (r_pickt rfl rfl rfl) ?_)
  refine l_op rfl (o_val rfl rfl (r_move rfl rfl) ?_)
  refine l_yes rfl rfl rfl (o_val rfl rfl (r_move rfl rfl) ?_)
  refine l_yes rfl rfl rfl (o_val rfl rfl (r_indexAddr rfl rfl ha6 rfl Try.underlying59 Try.sizeOf74 (by decide) (by decide)) ?_)
  refine l_yes rfl rfl rfl (o_val rfl rfl (r_fieldAddr (k := 33) rfl rfl Try.underlying74 rfl Try.sizeOf3 rfl rfl) ?_)
  refine l_yes rfl rfl rfl (o_val rfl rfl (r_load (v := .int .i64 (0)) rfl Try.isAgg3 rfl ((ds_app (fun p hp => (List.mem_append_right _ (List.mem_append_left _ hp))) (ds_app (fun p hp => (List.mem_append_right _ (List.mem_append_right _ (List.mem_append_left _ hp)))) (ds_cons (List.mem_append_right _ (List.mem_append_right _ (List.mem_append_right _ (List.mem_cons_of_mem _ List.mem_cons_self)))) (ds_app (fun p hp => (List.mem_append_right _ (List.mem_append_right _ (List.mem_append_right _ (List.mem_cons_of_mem _ (List.mem_cons_of_mem _ (List.mem_append_left _ hp))))))) ds_nil)))) _ hm6) (At.get (Row.elem hr6 rfl) (j := 33) rfl)) ?_)
  refine l_yes rfl rfl rfl (o_val rfl rfl (Run.eq (v' := .bool true) (r_eq rfl rfl rfl) (by rfl)) ?_)
  refine l_op rfl (o_val rfl rfl (r_pickt rfl rfl rfl) ?_)
  refine l_op rfl (o_val rfl rfl (r_move rfl rfl) ?_)
  refine l_yes rfl rfl rfl (o_val rfl rfl (r_move rfl rfl) ?_)
  refine l_yes rfl rfl rfl (o_val rfl rfl (r_indexAddr rfl rfl ha6 rfl Try.underlying59 Try.sizeOf74 (by decide) (by decide)) ?_)
  refine l_yes rfl rfl rfl (o_val rfl rfl (r_fieldAddr (k := 34) rfl rfl Try.underlying74 rfl Try.sizeOf3 rfl rfl) ?_)
  refine l_yes rfl rfl rfl (o_val rfl rfl (r_load (v := .int .i64 (3)) rfl Try.isAgg3 rfl ((ds_app (fun p hp => (List.mem_append_right _ (List.mem_append_left _ hp))) (ds_app (fun p hp => (List.mem_append_right _ (List.mem_append_right _ (List.mem_append_left _ hp)))) (ds_cons (List.mem_append_right _ (List.mem_append_right _ (List.mem_append_right _ (List.mem_cons_of_mem _ List.mem_cons_self)))) (ds_app (fun p hp => (List.mem_append_right _ (List.mem_append_right _ (List.mem_append_right _ (List.mem_cons_of_mem _ (List.mem_cons_of_mem _ (List.mem_append_left _ hp))))))) ds_nil)))) _ hm6) (At.get (Row.elem hr6 rfl) (j := 34) rfl)) ?_)
  refine l_yes rfl rfl rfl (o_val rfl rfl (Run.eq (v' := .bool true) (r_eq rfl rfl rfl) (by rfl)) ?_)
  refine l_op rfl (o_val rfl rfl (r_pickt rfl rfl rfl) ?_)
  refine l_op rfl (o_val rfl rfl (r_assign rfl rfl) ?_)
  refine l_nil ?_
  refine Then.slots (.cons (t := 0) rfl .nil) ?_
  refine e_next ?_
  refine t_ret ?_
  exact e_ret rfl (.tmp rfl .nil) ⟨rfl, Pre.ex (.app (.app (.app (.cons (.cons (.app .refl))))))⟩

set_option maxRecDepth 100000 in
theorem apply_none {E : Env} {H D : Heap} (hD : ∀ p, p ∈ D → p ∈ H) {v : Value} (hv : NilLike D v) {r : Rec} :
    Fn Try.prog 14 [v, .agg (encRec r).toArray] E H (fun u H2 => u = .int .i64 4 ∧ ∃ X, H2 = X ++ H) := by
  refine Fn.of_body (N := 47) Try.func14 rfl rfl rfl ?_
  refine t_seq ?_
  refine t_region ?_
  refine l_op rfl (o_box rfl rfl rfl rfl rfl ?_)
  intro b1
  refine l_op rfl (o_val rfl rfl (r_assign rfl rfl) ?_)
  refine l_nil ?_
  refine e_next ?_
  refine t_seq ?_
  refine t_seq ?_
  refine t_region ?_
  refine l_op rfl (o_val rfl rfl (r_move rfl rfl) ?_)
  refine l_op rfl (o_val rfl rfl (r_loadAgg rfl Try.isAgg46 Try.sizeOf46 rfl List.mem_cons_self (At.self _) rfl) ?_)
  refine l_op rfl (o_call rfl rfl rfl Try.call18 rfl (may_none (fun p hp => (List.mem_cons_of_mem _ (hD _ hp))) hv) ?_)
  rintro _ _ ⟨rfl, X2, rfl⟩
  refine l_op rfl (o_val rfl rfl (r_assign rfl rfl) ?_)
  refine l_nil ?_
  refine e_next ?_
  refine t_seq ?_
  refine t_region ?_
  refine l_op rfl (o_val rfl rfl (r_move rfl rfl) ?_)
  refine l_op rfl (o_val rfl rfl (Run.eq (v' := .bool true) (r_ne rfl rfl rfl) (by rfl)) ?_)
  refine l_nil ?_
  refine e_next ?_
  refine t_true rfl ?_
  refine t_seq ?_
  refine t_region ?_
  refine l_op rfl (o_val rfl rfl (r_move rfl rfl) ?_)
  refine l_op rfl (o_val rfl rfl (r_assign rfl rfl) ?_)
  refine l_nil ?_
  refine e_next ?_
  refine t_ret ?_
  refine e_pass_ret ?_
  exact e_ret rfl (.tmp rfl .nil) ⟨rfl, Pre.ex (.app (.cons .refl))⟩

set_option maxRecDepth 100000 in
theorem list_none {E : Env} {H D : Heap} (hD : ∀ p, p ∈ D → p ∈ H) {v : Value} (hv : NilLike D v) {k : ByteArray} :
    Fn Try.prog 11 [v, .string k] E H (fun u H2 => u = .slice none 0 0 ∧ ∃ X, H2 = X ++ H) := by
  refine Fn.of_body (N := 32) Try.func11 rfl rfl rfl ?_
  refine t_seq ?_
  refine t_region ?_
  refine l_op rfl (o_val rfl rfl (r_assign rfl rfl) ?_)
  refine l_nil ?_
  refine e_next ?_
  refine t_seq ?_
  refine t_seq ?_
  refine t_region ?_
  refine l_op rfl (o_val rfl rfl (r_move rfl rfl) ?_)
  refine l_op rfl (o_call rfl rfl rfl Try.call24 rfl (made_none (fun p hp => (hD _ hp)) hv) ?_)
  rintro _ _ ⟨rfl, he⟩
  rw [he]
  clear he
  refine l_op rfl (o_val rfl rfl (r_not rfl rfl) ?_)
  refine l_nil ?_
  refine e_next ?_
  refine t_true rfl ?_
  refine t_seq ?_
  refine t_region ?_
  refine l_op rfl (o_val rfl rfl (r_assign rfl rfl) ?_)
  refine l_nil ?_
  refine e_next ?_
  refine t_ret ?_
  refine e_pass_ret ?_
  exact e_ret rfl (.tmp rfl .nil) ⟨rfl, Pre.ex .refl⟩

set_option maxRecDepth 100000 in
theorem digests_none {E : Env} {H D : Heap} (hD : ∀ p, p ∈ D → p ∈ H) {v : Value} (hv : NilLike D v) :
    Fn Try.prog 22 [v] E H (fun u H2 => u = .slice none 0 0 ∧ ∃ X, H2 = X ++ H) := by
  refine Fn.of_body (N := 36) Try.func22 rfl rfl rfl ?_
  refine t_seq ?_
  refine t_region ?_
  refine l_op rfl (o_val rfl rfl (r_assign rfl rfl) ?_)
  refine l_nil ?_
  refine e_next ?_
  refine t_seq ?_
  refine t_seq ?_
  refine t_region ?_
  refine l_op rfl (o_val rfl rfl (r_move rfl rfl) ?_)
  refine l_op rfl (o_call rfl rfl rfl Try.call24 rfl (made_none (fun p hp => (hD _ hp)) hv) ?_)
  rintro _ _ ⟨rfl, he⟩
  rw [he]
  clear he
  refine l_op rfl (o_val rfl rfl (r_not rfl rfl) ?_)
  refine l_nil ?_
  refine e_next ?_
  refine t_true rfl ?_
  refine t_seq ?_
  refine t_region ?_
  refine l_op rfl (o_val rfl rfl (r_assign rfl rfl) ?_)
  refine l_nil ?_
  refine e_next ?_
  refine t_ret ?_
  refine e_pass_ret ?_
  exact e_ret rfl (.tmp rfl .nil) ⟨rfl, Pre.ex .refl⟩

set_option maxRecDepth 100000 in
theorem copy_none {E : Env} {H D : Heap} (hD : ∀ p, p ∈ D → p ∈ H) {v : Value} (hv : NilLike D v) :
    Fn Try.prog 23 [v] E H (fun u H2 => u = .pointer none ∧ ∃ X, H2 = X ++ H) := by
  refine Fn.of_body (N := 28) Try.func23 rfl rfl rfl ?_
  refine t_seq ?_
  refine t_region ?_
  refine l_op rfl (o_val rfl rfl (r_assign rfl rfl) ?_)
  refine l_nil ?_
  refine e_next ?_
  refine t_seq ?_
  refine t_seq ?_
  refine t_region ?_
  refine l_op rfl (o_val rfl rfl (r_move rfl rfl) ?_)
  refine l_op rfl (o_call rfl rfl rfl Try.call24 rfl (made_none (fun p hp => (hD _ hp)) hv) ?_)
  rintro _ _ ⟨rfl, he⟩
  rw [he]
  clear he
  refine l_op rfl (o_val rfl rfl (r_not rfl rfl) ?_)
  refine l_nil ?_
  refine e_next ?_
  refine t_true rfl ?_
  refine t_seq ?_
  refine t_region ?_
  refine l_op rfl (o_val rfl rfl (r_assign rfl rfl) ?_)
  refine l_nil ?_
  refine e_next ?_
  refine t_ret ?_
  refine e_pass_ret ?_
  exact e_ret rfl (.tmp rfl .nil) ⟨rfl, Pre.ex .refl⟩

set_option maxRecDepth 100000 in
theorem nobody_c {E : Env} {H : Heap} {r : Rec} {k : ByteArray} :
    Fn Try.prog 6 [.agg (encRec r).toArray, .string k] E H (fun u H2 => u = .bool true ∧ ∃ X, H2 = X ++ H) := by
  refine Fn.of_body (N := 77) Try.func6 rfl rfl rfl ?_
  refine t_seq ?_
  refine t_region ?_
  refine l_op rfl (o_box rfl rfl rfl rfl rfl ?_)
  intro b1
  refine l_op rfl (o_val rfl rfl (r_assign rfl rfl) ?_)
  refine l_nil ?_
  refine e_next ?_
  refine t_seq ?_
  refine t_region ?_
  refine l_op rfl (o_val rfl rfl (r_assign rfl rfl) ?_)
  refine l_nil ?_
  refine e_next ?_
  refine t_seq ?_
  refine t_seq ?_
  refine t_region ?_
  refine l_op rfl (o_val rfl rfl (r_move rfl rfl) ?_)
  refine l_op rfl (o_val rfl rfl (r_build (cells := [.map none]) rfl rfl (by kernel_rfl)) ?_)
  refine l_op rfl (o_box rfl rfl rfl rfl rfl ?_)
  intro b2
  refine l_op rfl (o_sliceN (enc := encVal) (l := ([.pointer none, .pointer (some ⟨b2, 0, none⟩)] : List Value)) (sz := 1) (vs := [.pointer none, .pointer (some ⟨b2, 0, none⟩)]) rfl rfl rfl rfl rfl rfl (fun _ => rfl) Try.underlying58 Try.sizeOf24 Try.zeroValue24 rfl rfl ?_)
  intro b3
  have hslb3 : SliceAt [(b3, .cells ((([.pointer none, .pointer (some ⟨b2, 0, none⟩)] : List Value).map encVal).flatten).toArray 24 (0, 0))] encVal 1 (some ⟨b3, 0, none⟩) 2 2 ([.pointer none, .pointer (some ⟨b2, 0, none⟩)] : List Value) := sliceAt_all (fun _ => rfl) rfl List.mem_cons_self
  refine l_op rfl (o_val rfl rfl (r_len rfl rfl Try.underlying58) ?_)
  refine l_op rfl (o_val rfl rfl (r_move rfl rfl) ?_)
  refine l_nil ?_
  refine e_next ?_
  refine t_block ?_
  refine t_loop (fun (mz : Nat) aa ww => ∃ (i : Int), mz = (2 - i.toNat) ∧ (0 ≤ i) ∧ (i ≤ 2) ∧ Sl 77 [(1, .string k), (2, .pointer (some ⟨b1, 0, none⟩)), (15, .slice (some ⟨b3, 0, none⟩) 2 2), (16, .int .i64 (2)), (17, .int .i64 (i))] aa ∧ Holds E ((b3, .cells ((([.pointer none, .pointer (some ⟨b2, 0, none⟩)] : List Value).map encVal).flatten).toArray 24 (0, 0)) :: ((b2, .cells ([.map none]).toArray 57 (0, 0)) :: ((b1, .cells (encRec r).toArray 46 (0, 0)) :: H))) ww) (2) ?_ ?_
  · intro aa ww hL hH
    exact ⟨0, rfl, by omega, by omega, hL.sub (.cons (t := 1) rfl (.cons (t := 2) rfl (.cons (t := 15) rfl (.cons (t := 16) rfl (.cons (t := 17) rfl .nil))))), hH.hs (.cell .head (.cell .head (.cell .head .all)))⟩
  · skip
    rintro mz aa ww ⟨i, hmz, h0, h1, hL, hH⟩
    refine Then.run hL hH ?_
    clear hL hH aa ww
    refine t_seq ?_
    refine t_region ?_
    refine l_op rfl (o_val rfl rfl (r_lt rfl rfl rfl) ?_)
    refine l_nil ?_
    refine e_next ?_
    refine t_seq ?_
    refine t_dec rfl (fun c18 => ?_) (fun c18 => ?_)
    · skip
      refine t_skip ?_
      refine e_next ?_
      refine t_seq ?_
      refine t_block ?_
      refine t_seq ?_
      refine t_region ?_
      obtain ⟨b4, o4, cs4, T4, f4, ha4, hm4, hr4⟩ := SliceAt.opn hslb3 (by omega)
      obtain ⟨x1, hx1⟩ : ∃ x, ([.pointer none, .pointer (some ⟨b2, 0, none⟩)] : List Value)[Int.toNat (i)]? = some x := getSome (by have := hslb3.len; omega)
      have hvx1 : NilLike ((b2, .cells ([.map none]).toArray 57 (0, 0)) :: []) x1 := by have hm := List.mem_of_getElem? hx1; simp only [List.mem_cons, List.not_mem_nil, or_false] at hm; rcases hm with h | h; exact .inl h; exact .inr ⟨_, h, List.mem_cons_self⟩
      refine l_op rfl (o_val rfl rfl (r_indexAddr rfl rfl ha4 rfl Try.underlying58 Try.sizeOf24 (by omega) (by omega)) ?_)
      refine l_op rfl (o_val rfl rfl (r_load (v := x1) rfl Try.isAgg24 rfl ((ds_cons List.mem_cons_self ds_nil) _ hm4) (At.get0 (Row.elem hr4 hx1) rfl)) ?_)
      refine l_op rfl (o_val rfl rfl (r_assign rfl rfl) ?_)
      refine l_nil ?_
      refine e_next ?_
      refine t_seq ?_
      refine t_region ?_
      refine l_op rfl (o_val rfl rfl (r_move rfl rfl) ?_)
      refine l_op rfl (o_val rfl rfl (r_move rfl rfl) ?_)
      refine l_op rfl (o_call rfl rfl rfl Try.call16 rfl (stat_none (ds_cons (List.mem_cons_of_mem _ List.mem_cons_self) ds_nil) hvx1) ?_)
      rintro _ _ ⟨rfl, X5, rfl⟩
      refine l_op rfl (o_val rfl rfl (r_move rfl rfl) ?_)
      refine l_op rfl (o_val rfl rfl (r_extract (v := .agg (encFile File.zero).toArray) rfl rfl rfl) ?_)
      refine l_op rfl (o_val rfl rfl (r_extract (v := .int .i64 (4)) rfl rfl rfl) ?_)
      refine l_op rfl (o_alloc rfl rfl rfl Try.zeroValue48 rfl ?_)
      intro b6
      refine l_op rfl (o_storeAgg (ys := encFile File.zero) rfl rfl rfl rfl rfl Try.sizeOf48 .head rfl ?_)
      refine l_op rfl (o_val rfl rfl (r_assign rfl rfl) ?_)
      refine l_nil ?_
      refine e_next ?_
      refine t_seq ?_
      refine t_region ?_
      refine l_op rfl (o_val rfl rfl (r_move rfl rfl) ?_)
      refine l_op rfl (o_val rfl rfl (r_move rfl rfl) ?_)
      refine l_op rfl (o_call rfl rfl rfl Try.call21 rfl (seek_none (ds_cons (List.mem_cons_of_mem _ (List.mem_append_right _ (List.mem_cons_of_mem _ List.mem_cons_self))) ds_nil) hvx1) ?_)
      rintro _ _ ⟨rfl, X7, rfl⟩
      refine l_op rfl (o_val rfl rfl (r_move rfl rfl) ?_)
      refine l_op rfl (o_val rfl rfl (r_extract (v := .slice none 0 0) rfl rfl rfl) ?_)
      refine l_op rfl (o_val rfl rfl (r_extract (v := .int .i64 (4)) rfl rfl rfl) ?_)
      refine l_op rfl (o_val rfl rfl (r_assign rfl rfl) ?_)
      refine l_op rfl (o_val rfl rfl (r_assign rfl rfl) ?_)
      refine l_nil ?_
      refine Then.slots (.cons (t := 1) rfl (.cons (t := 2) rfl (.cons (t := 7) rfl (.cons (t := 8) rfl (.cons (t := 9) rfl (.cons (t := 10) rfl (.cons (t := 11) rfl (.cons (t := 15) rfl (.cons (t := 16) rfl (.cons (t := 17) rfl .nil)))))))))) ?_
      refine e_next ?_
      refine t_seq ?_
      refine t_region ?_
      refine l_op rfl (o_val rfl rfl (r_move rfl rfl) ?_)
      refine l_op rfl (o_val rfl rfl (r_loadAgg rfl Try.isAgg46 Try.sizeOf46 rfl (List.mem_append_right _ (List.mem_cons_of_mem _ (List.mem_append_right _ (List.mem_cons_of_mem _ (List.mem_cons_of_mem _ List.mem_cons_self))))) (At.self _) rfl) ?_)
      refine l_op rfl (o_call rfl rfl rfl Try.call14 rfl (apply_none (ds_cons (List.mem_append_right _ (List.mem_cons_of_mem _ (List.mem_append_right _ (List.mem_cons_of_mem _ List.mem_cons_self)))) ds_nil) hvx1) ?_)
      rintro _ _ ⟨rfl, X8, rfl⟩
      refine l_op rfl (o_val rfl rfl (Run.eq (v' := .bool false) (r_ne rfl rfl rfl) (by rfl)) ?_)
      refine l_op rfl (o_val rfl rfl (r_move rfl rfl) ?_)
      refine l_yes rfl rfl rfl (o_val rfl rfl (r_move rfl rfl) ?_)
      refine l_yes rfl rfl rfl (o_val rfl rfl (r_loadAgg rfl Try.isAgg46 Try.sizeOf46 rfl (List.mem_append_right _ (List.mem_append_right _ (List.mem_cons_of_mem _ (List.mem_append_right _ (List.mem_cons_of_mem _ (List.mem_cons_of_mem _ List.mem_cons_self)))))) (At.self _) rfl) ?_)
      refine l_yes rfl rfl rfl (o_call rfl rfl rfl Try.call18 rfl (may_none (ds_cons (List.mem_append_right _ (List.mem_append_right _ (List.mem_cons_of_mem _ (List.mem_append_right _ (List.mem_cons_of_mem _ List.mem_cons_self))))) ds_nil) hvx1) ?_)
      rintro _ _ ⟨rfl, X9, rfl⟩
      refine l_yes rfl rfl rfl (o_val rfl rfl (Run.eq (v' := .bool false) (r_ne rfl rfl rfl) (by rfl)) ?_)
      refine l_op rfl (o_val rfl rfl (r_pickf rfl rfl rfl) ?_)
      refine l_op rfl (o_val rfl rfl (r_move rfl rfl) ?_)
      refine l_yes rfl rfl rfl (o_val rfl rfl (r_move rfl rfl) ?_)
      refine l_yes rfl rfl rfl (o_val rfl rfl (Run.eq (v' := .bool false) (r_ne rfl rfl rfl) (by rfl)) ?_)
      refine l_op rfl (o_val rfl rfl (r_pickf rfl rfl rfl) ?_)
      refine l_op rfl (o_val rfl rfl (r_move rfl rfl) ?_)
      refine l_yes rfl rfl rfl (o_val rfl rfl (r_move rfl rfl) ?_)
      refine l_yes rfl rfl rfl (o_val rfl rfl (Run.eq (v' := .bool false) (r_ne rfl rfl rfl) (by rfl)) ?_)
      refine l_op rfl (o_val rfl rfl (r_pickf rfl rfl rfl) ?_)
      refine l_op rfl (o_val rfl rfl (r_move rfl rfl) ?_)
      refine l_yes rfl rfl rfl (o_val rfl rfl (r_fieldAddr (k := 0) rfl rfl Try.underlying48 rfl Try.sizeOf9 rfl rfl) ?_)
      refine l_yes rfl rfl rfl (o_val rfl rfl (r_load (v := .string (⟨#[]⟩ : ByteArray)) rfl Try.isAgg9 rfl (List.mem_append_right _ (List.mem_append_right _ (List.mem_append_right _ List.mem_cons_self))) rfl) ?_)
      refine l_yes rfl rfl rfl (o_val rfl rfl (Run.eq (v' := .bool false) (r_sne rfl rfl rfl) (by simp)) ?_)
      refine l_op rfl (o_val rfl rfl (r_pickf rfl rfl rfl) ?_)
      refine l_op rfl (o_val rfl rfl (r_move rfl rfl) ?_)
      refine l_yes rfl rfl rfl (o_val rfl rfl (r_move rfl rfl) ?_)
      refine l_yes rfl rfl rfl (o_val rfl rfl (r_len rfl rfl Try.underlying59) ?_)
      refine l_yes rfl rfl rfl (o_val rfl rfl (r_move rfl rfl) ?_)
      refine l_yes rfl rfl rfl (o_val rfl rfl (r_move rfl rfl) ?_)
      refine l_yes rfl rfl rfl (o_call rfl rfl rfl Try.call11 rfl (list_none (ds_cons (List.mem_append_right _ (List.mem_append_right _ (List.mem_append_right _ (List.mem_cons_of_mem _ (List.mem_append_right _ (List.mem_cons_of_mem _ List.mem_cons_self)))))) ds_nil) hvx1) ?_)
      rintro _ _ ⟨rfl, X10, rfl⟩
      refine l_yes rfl rfl rfl (o_val rfl rfl (r_len rfl rfl Try.underlying32) ?_)
      refine l_yes rfl rfl rfl (o_val rfl rfl (Run.eq (v' := .int .i64 0) (r_add rfl rfl rfl (by decide) (by decide)) (by rfl)) ?_)
      refine l_yes rfl rfl rfl (o_val rfl rfl (r_move rfl rfl) ?_)
      refine l_yes rfl rfl rfl (o_call rfl rfl rfl Try.call22 rfl (digests_none (ds_cons (List.mem_append_right _ (List.mem_append_right _ (List.mem_append_right _ (List.mem_append_right _ (List.mem_cons_of_mem _ (List.mem_append_right _ (List.mem_cons_of_mem _ List.mem_cons_self))))))) ds_nil) hvx1) ?_)
      rintro _ _ ⟨rfl, X11, rfl⟩
      refine l_yes rfl rfl rfl (o_val rfl rfl (r_len rfl rfl Try.underlying62) ?_)
      refine l_yes rfl rfl rfl (o_val rfl rfl (Run.eq (v' := .int .i64 0) (r_add rfl rfl rfl (by decide) (by decide)) (by rfl)) ?_)
      refine l_yes rfl rfl rfl (o_val rfl rfl (Run.eq (v' := .bool false) (r_ne rfl rfl rfl) (by rfl)) ?_)
      refine l_op rfl (o_val rfl rfl (r_pickf rfl rfl rfl) ?_)
      refine l_op rfl (o_val rfl rfl (r_move rfl rfl) ?_)
      refine l_yes rfl rfl rfl (o_val rfl rfl (r_move rfl rfl) ?_)
      refine l_yes rfl rfl rfl (o_call rfl rfl rfl Try.call23 rfl (copy_none (ds_cons (List.mem_append_right _ (List.mem_append_right _ (List.mem_append_right _ (List.mem_append_right _ (List.mem_append_right _ (List.mem_cons_of_mem _ (List.mem_append_right _ (List.mem_cons_of_mem _ List.mem_cons_self)))))))) ds_nil) hvx1) ?_)
      rintro _ _ ⟨rfl, X12, rfl⟩
      refine l_yes rfl rfl rfl (o_val rfl rfl (r_nev rfl rfl rfl rfl rfl (q_nil_nil Try.underlying24)) ?_)
      refine l_op rfl (o_val rfl rfl (r_pickf rfl rfl rfl) ?_)
      refine l_nil ?_
      refine Then.slots (.cons (t := 1) rfl (.cons (t := 2) rfl (.cons (t := 15) rfl (.cons (t := 16) rfl (.cons (t := 17) rfl (.cons (t := 74) rfl .nil)))))) ?_
      refine e_next ?_
      refine t_false rfl ?_
      refine t_skip ?_
      refine e_block _ ?_
      refine e_next ?_
      refine t_region ?_
      refine l_op rfl (o_val rfl rfl (r_add rfl rfl rfl (by omega) (by omega)) ?_)
      refine l_op rfl (o_val rfl rfl (r_move rfl rfl) ?_)
      refine l_nil ?_
      intro aa ww hL hH
      exact ⟨_, by omega, i + 1, rfl, by omega, by omega, hL.sub (.cons (t := 1) rfl (.cons (t := 2) rfl (.cons (t := 15) rfl (.cons (t := 16) rfl (.cons (t := 17) rfl .nil))))), hH.hs (.cell (.app (.app (.app (.app (.app (.app (.tail (.app .head)))))))) (.cell (.app (.app (.app (.app (.app (.app (.tail (.app .head)))))))) (.cell (.app (.app (.app (.app (.app (.app (.tail (.app .head)))))))) (.dropS (.dropS (.dropS (.dropS (.dropS (.dropS (.drop (.dropS .all)))))))))))⟩
    · skip
      refine t_exit ?_
      refine e_pass_exit ?_
      refine e_pass_exit ?_
      refine e_block_here ?_
      refine e_next ?_
      refine t_seq ?_
      refine t_region ?_
      refine l_op rfl (o_call rfl rfl rfl Try.call12 rfl (alive_c) ?_)
      rintro _ _ ⟨rfl, X13, rfl⟩
      refine l_op rfl (o_val rfl rfl (r_assign rfl rfl) ?_)
      refine l_nil ?_
      refine e_next ?_
      refine t_ret ?_
      exact e_ret rfl (.tmp rfl .nil) ⟨rfl, Pre.ex (.app (.cons (.cons (.cons .refl))))⟩

end Go.Sal.Nm
