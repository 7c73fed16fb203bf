/- The walk over NamesMany. -/
import Derived.Test.YtbiailfegepeaaaMany
import Derived.Test.YtbiailfegepeaaaStrings
import Derived.Test.YtbiailfegepeaaaN3
namespace Go.Sal.Nm
open Go Go.Sal Go.Proofs
set_option linter.unusedVariables false
set_option linter.unusedSimpArgs false
set_option maxRecDepth 100000 in
theorem number_c {E : Env} {H : Heap} {n : Int} (hn0 : 0 ≤ n) (hn : n ≤ 4096) :
    Fn Try.prog 15 [.int .i64 n] E H (fun v H2 => v = .string (numS n.toNat) ∧ ∃ X, H2 = X ++ H) := by
  refine Fn.of_body (N := 23) Try.func15 rfl rfl rfl ?_
  refine t_seq ?_
  refine t_region ?_
  refine l_op rfl (o_val rfl rfl (r_assign rfl rfl) ?_)
  refine l_nil ?_
  refine e_next ?_
  refine t_seq ?_
  refine t_region ?_
  refine l_op rfl (o_val rfl rfl (r_assign rfl rfl) ?_)
  refine l_nil ?_
  refine e_next ?_
  refine t_seq ?_
  refine t_block ?_
  refine t_loop (fun (mz : Nat) aa ww => ∃ (i : Int) (s : ByteArray), mz = i.toNat ∧ (0 ≤ i) ∧ (i ≤ n) ∧ (numGo i.toNat s.data.toList = (numS n.toNat).data.toList) ∧ (s.size + i.toNat ≤ n.toNat) ∧ Sl 23 [(0, .int .i64 (i)), (3, .string s)] aa ∧ Holds E H ww) (n.toNat) ?_ ?_
  · intro aa ww hL hH
    exact ⟨n, ⟨#[]⟩, rfl, hn0, by omega, (by rfl), (by show 0 + _ ≤ _; omega), hL.sub (.cons (t := 0) rfl (.cons (t := 3) rfl .nil)), hH.hs .all⟩
  · skip
    rintro mz aa ww ⟨i, s, hmz, h0, h1, hgo, hsz, hL, hH⟩
    refine Then.run hL hH ?_
    clear hL hH aa ww
    refine t_seq ?_
    refine t_seq ?_
    refine t_region ?_
    refine l_op rfl (o_val rfl rfl (r_move rfl rfl) ?_)
    refine l_op rfl (o_val rfl rfl (r_gt rfl rfl rfl) ?_)
    refine l_nil ?_
    refine e_next ?_
    refine t_dec rfl (fun c5 => ?_) (fun c5 => ?_)
    · skip
      refine t_skip ?_
      refine e_next ?_
      refine t_seq ?_
      refine t_block ?_
      refine t_region ?_
      refine l_op rfl (o_val rfl rfl (r_move rfl rfl) ?_)
      refine l_op rfl (o_val rfl rfl (r_rem rfl rfl rfl (by omega) (by omega)) ?_)
      refine l_op rfl (o_val rfl rfl (r_add rfl rfl rfl (by omega) (by omega)) ?_)
      refine l_op rfl (o_val rfl rfl (r_conv8 rfl rfl Try.underlying3 Try.underlying5 (by omega) (by omega)) ?_)
      refine l_op rfl (o_slice1 rfl rfl rfl rfl rfl Try.underlying77 Try.sizeOf5 Try.zeroValue5 rfl rfl (by omega) ?_)
      intro b1
      refine l_op rfl (o_val rfl rfl (r_str1 rfl rfl Try.underlying77 Try.underlying5 Try.underlying9 List.mem_cons_self) ?_)
      refine l_op rfl (o_val rfl rfl (r_move rfl rfl) ?_)
      refine l_op rfl (o_val rfl rfl (r_sadd rfl rfl rfl (by show 1 + s.size ≤ _; omega)) ?_)
      refine l_op rfl (o_val rfl rfl (r_assign rfl rfl) ?_)
      refine l_nil ?_
      refine e_block _ ?_
      refine e_next ?_
      refine t_region ?_
      refine l_op rfl (o_val rfl rfl (r_move rfl rfl) ?_)
      refine l_op rfl (o_val rfl rfl (r_quo rfl rfl rfl (by omega) (by omega) (by omega)) ?_)
      refine l_op rfl (o_val rfl rfl (r_assign rfl rfl) ?_)
      refine l_nil ?_
      intro aa ww hL hH
      exact ⟨_, by omega, i / 10, ((⟨#[UInt8.ofNat (Int.toNat (48 + (i % 10)))]⟩ : ByteArray) ++ s), rfl, by omega, by omega, (numGo_step hgo c5), (by rw [ByteArray.size_append]; show 1 + s.size + (i / 10).toNat ≤ n.toNat; omega), hL.sub (.cons (t := 0) rfl (.cons (t := 3) rfl .nil)), hH.hs (.drop .all)⟩
    · skip
      refine t_exit ?_
      refine e_pass_exit ?_
      refine e_pass_exit ?_
      refine e_block_here ?_
      refine e_next ?_
      refine t_seq ?_
      refine t_region ?_
      refine l_op rfl (o_val rfl rfl (r_move rfl rfl) ?_)
      refine l_op rfl (o_val rfl rfl (r_add rfl rfl rfl (by omega) (by omega)) ?_)
      refine l_op rfl (o_val rfl rfl (r_conv8 rfl rfl Try.underlying3 Try.underlying5 (by omega) (by omega)) ?_)
      refine l_op rfl (o_slice1 rfl rfl rfl rfl rfl Try.underlying77 Try.sizeOf5 Try.zeroValue5 rfl rfl (by omega) ?_)
      intro b2
      refine l_op rfl (o_val rfl rfl (r_str1 rfl rfl Try.underlying77 Try.underlying5 Try.underlying9 List.mem_cons_self) ?_)
      refine l_op rfl (o_val rfl rfl (r_move rfl rfl) ?_)
      refine l_op rfl (o_val rfl rfl (r_sadd rfl rfl rfl (by show 1 + s.size ≤ _; omega)) ?_)
      refine l_op rfl (o_val rfl rfl (r_assign rfl rfl) ?_)
      refine l_nil ?_
      refine e_next ?_
      refine t_ret ?_
      exact e_ret rfl (.tmp rfl .nil) ⟨congrArg Value.string (numGo_last hgo h0 c5), Pre.ex (.cons .refl)⟩

set_option maxRecDepth 100000 in
theorem many_c {E : Env} {H : Heap} {k : Int} :
    Fn Try.prog 4 [.int .i64 k] E H (fun v H2 => v = .bool true ∧ ∃ X, H2 = X ++ H) := by
  refine Fn.of_body (N := 63) Try.func4 rfl rfl rfl ?_
  refine t_seq ?_
  refine t_region ?_
  refine l_op rfl (o_val rfl rfl (r_assign rfl rfl) ?_)
  refine l_nil ?_
  refine e_next ?_
  refine t_seq ?_
  refine t_seq ?_
  refine t_region ?_
  refine l_op rfl (o_val rfl rfl (r_move rfl rfl) ?_)
  refine l_op rfl (o_val rfl rfl (r_ne rfl rfl rfl) ?_)
  refine l_nil ?_
  refine e_next ?_
  refine t_dec rfl (fun c10 => ?_) (fun c10 => ?_)
  · skip
    refine t_seq ?_
    refine t_region ?_
    refine l_op rfl (o_call rfl rfl rfl Try.call12 rfl (alive_c) ?_)
    rintro _ _ ⟨rfl, X1, rfl⟩
    refine l_op rfl (o_val rfl rfl (r_assign rfl rfl) ?_)
    refine l_nil ?_
    refine e_next ?_
    refine t_ret ?_
    refine e_pass_ret ?_
    exact e_ret rfl (.tmp rfl .nil) ⟨rfl, Pre.ex (.app .refl)⟩
  · skip
    refine t_skip ?_
    refine e_next ?_
    refine t_seq ?_
    refine t_region ?_
    refine l_op rfl (o_call rfl rfl rfl Try.call13 rfl (new_c) ?_)
    rintro _ _ ⟨bn2, bm2, rfl, rfl⟩
    refine l_op rfl (o_val rfl rfl (r_assign rfl rfl) ?_)
    refine l_nil ?_
    refine e_next ?_
    refine t_seq ?_
    refine t_seq ?_
    refine t_region ?_
    refine l_op rfl (o_val rfl rfl (r_move rfl rfl) ?_)
    refine l_op rfl (o_val rfl rfl (r_eqv rfl rfl rfl rfl rfl (q_ptr_nil Try.underlying24)) ?_)
    refine l_nil ?_
    refine e_next ?_
    refine t_false rfl ?_
    refine t_skip ?_
    refine e_next ?_
    refine t_seq ?_
    refine t_seq ?_
    refine t_region ?_
    refine l_op rfl (o_val rfl rfl (r_assign rfl rfl) ?_)
    refine l_nil ?_
    refine e_next ?_
    refine t_block ?_
    refine t_loop (fun (mz : Nat) aa ww => ∃ (i : Int) (X : Heap) (mes : Array MapEntry) (mc : Nat) (m : FMap), mz = (1024 - i.toNat) ∧ (0 ≤ i) ∧ (i ≤ 1024) ∧ (IsMap mes mc fileV m) ∧ (FilesAt (X ++ ((bn2, .cells ([.map (some bm2)]).toArray 57 (0, 0)) :: [])) m) ∧ (LM m = manyL i.toNat) ∧ Sl 63 [(3, .pointer (some ⟨bn2, 0, none⟩)), (4, .int .i64 (i))] aa ∧ Holds E (X ++ ((bm2, .map mes mc) :: ((bn2, .cells ([.map (some bm2)]).toArray 57 (0, 0)) :: H))) ww) (1024) ?_ ?_
    · intro aa ww hL hH
      exact ⟨0, [], #[], 0, [], rfl, by omega, by omega, IsMap.empty fileV, (fun p hp => by cases hp), rfl, hL.sub (.cons (t := 3) rfl (.cons (t := 4) rfl .nil)), hH.hs (.seg (S := []) .here (.cell (.tail .head) (.cell .head .all)))⟩
    · skip
      rintro mz aa ww ⟨i, X, mes, mc, m, hmz, h0, h1, him, hfa, hlm, hL, hH⟩
      refine Then.run hL hH ?_
      clear hL hH aa ww
      refine t_seq ?_
      refine t_seq ?_
      refine t_region ?_
      refine l_op rfl (o_val rfl rfl (r_move rfl rfl) ?_)
      refine l_op rfl (o_val rfl rfl (r_lt rfl rfl rfl) ?_)
      refine l_nil ?_
      refine e_next ?_
      refine t_dec rfl (fun c16 => ?_) (fun c16 => ?_)
      · skip
        refine t_skip ?_
        refine e_next ?_
        refine t_seq ?_
        refine t_block ?_
        refine t_seq ?_
        refine t_region ?_
        refine l_op rfl (o_val rfl rfl (r_move rfl rfl) ?_)
        refine l_op rfl (o_val rfl rfl (r_move rfl rfl) ?_)
        refine l_op rfl (o_val rfl rfl (r_add rfl rfl rfl (by omega) (by omega)) ?_)
        refine l_op rfl (o_val rfl rfl (r_move rfl rfl) ?_)
        refine l_op rfl (o_call rfl rfl rfl Try.call15 rfl (number_c (n := i) h0 (by omega)) ?_)
        rintro _ _ ⟨rfl, X3, rfl⟩
        refine l_op rfl (o_val rfl rfl (r_sadd rfl rfl rfl (by have := (numS_size i.toNat).2; show 1 + (numS i.toNat).size ≤ _; omega)) ?_)
        refine l_op rfl (o_val rfl rfl (r_build (cells := encRec (⟨(i + 1), 1, Dig.zero, 2, 0, (((⟨#[112]⟩ : ByteArray) ++ (numS i.toNat))), none, 0, 0⟩ : Rec)) rfl rfl (by kernel_rfl)) ?_)
        refine Then.mem (.cell (.app (.app .head)) .all) ?_
        refine l_op rfl (o_call rfl rfl rfl Try.call14 rfl (apply_c (r := (⟨(i + 1), 1, Dig.zero, 2, 0, (((⟨#[112]⟩ : ByteArray) ++ (numS i.toNat))), none, 0, 0⟩ : Rec)) (D := (X ++ ((bn2, .cells ([.map (some bm2)]).toArray 57 (0, 0)) :: []))) (ds_app (fun p hp => (List.mem_append_right _ (List.mem_append_left _ hp))) (ds_cons (List.mem_append_right _ (List.mem_append_right _ List.mem_cons_self)) ds_nil)) (List.mem_append_right _ List.mem_cons_self) him hfa SliceAt.nil) ?_)
        rintro _ _ ⟨X4, es4, c4, m4, rfl, rfl, him4, hfa4, hlm4⟩
        refine l_op rfl (o_val rfl rfl (r_ne rfl rfl rfl) ?_)
        refine l_nil ?_
        refine e_next ?_
        refine t_decf rfl (by rw [show (mayL (LM m) (⟨i + 1, 1, Dig.zero, 2, 0, (⟨#[112]⟩ : ByteArray) ++ numS i.toNat, none, 0, 0⟩ : Rec) []) = 0 from many_may hlm (by omega) (by omega)]; simp) ?_
        refine t_skip ?_
        refine e_block _ ?_
        refine e_next ?_
        refine t_region ?_
        refine l_op rfl (o_val rfl rfl (r_move rfl rfl) ?_)
        refine l_op rfl (o_val rfl rfl (r_add rfl rfl rfl (by omega) (by omega)) ?_)
        refine l_op rfl (o_val rfl rfl (r_assign rfl rfl) ?_)
        refine l_nil ?_
        intro aa ww hL hH
        exact ⟨_, by omega, i + 1, X4 ++ X, es4, c4, m4, rfl, by omega, by omega, him4, (by simpa using hfa4), (by rw [hlm4, show (i + 1).toNat = i.toNat + 1 by omega]; exact many_step hlm (by omega) (by omega)), hL.sub (.cons (t := 3) rfl (.cons (t := 4) rfl .nil)), hH.hs (.assoc (.seg .here (.seg (.tail (.app .here)) (.cell .head (.cell (.app .head) (.dropS .all))))))⟩
      · skip
        refine t_exit ?_
        refine e_pass_exit ?_
        refine e_pass_exit ?_
        refine e_block_here ?_
        refine e_next ?_
        refine t_seq ?_
        have hlm0 : LM m = manyL 1024 := by rw [hlm, show i.toNat = 1024 by omega]
        refine t_region ?_
        refine l_op rfl (o_val rfl rfl (r_move rfl rfl) ?_)
        refine l_op rfl (o_val rfl rfl (r_build (cells := encRec (⟨1, 1, Dig.zero, 2, 0, (⟨#[109, 111, 114, 101]⟩ : ByteArray), none, 0, 0⟩ : Rec)) rfl rfl (by kernel_rfl)) ?_)
        refine Then.mem (.cell (.app .head) .all) ?_
        refine l_op rfl (o_call rfl rfl rfl Try.call14 rfl (apply_c (r := (⟨1, 1, Dig.zero, 2, 0, (⟨#[109, 111, 114, 101]⟩ : ByteArray), none, 0, 0⟩ : Rec)) (D := (X ++ ((bn2, .cells ([.map (some bm2)]).toArray 57 (0, 0)) :: []))) (ds_app (fun p hp => (List.mem_append_left _ hp)) (ds_cons (List.mem_append_right _ List.mem_cons_self) ds_nil)) (List.mem_append_right _ List.mem_cons_self) him hfa SliceAt.nil) ?_)
        rintro _ _ ⟨X5, es5, c5, m5, rfl, rfl, him5, hfa5, hlm5⟩
        have hlm2 : LM m5 = manyL 1024 := by rw [hlm5]; exact many_more2 hlm0
        have hres := many_more hlm0
        rw [show mayL (LM m) ((⟨1, 1, Dig.zero, 2, 0, (⟨#[109, 111, 114, 101]⟩ : ByteArray), none, 0, 0⟩ : Rec)) ([]) = 3 from hres]
        refine l_op rfl (o_val rfl rfl (r_assign rfl rfl) ?_)
        refine l_nil ?_
        refine e_next ?_
        refine t_seq ?_
        refine t_region ?_
        refine l_op rfl (o_val rfl rfl (r_move rfl rfl) ?_)
        refine l_op rfl (o_val rfl rfl (r_build (cells := encRec (⟨7, 1, Dig.zero, 2, 0, (⟨#[112, 53]⟩ : ByteArray), none, 0, 0⟩ : Rec)) rfl rfl (by kernel_rfl)) ?_)
        refine Then.mem (.cell (.app .head) .all) ?_
        refine l_op rfl (o_call rfl rfl rfl Try.call14 rfl (apply_c (r := (⟨7, 1, Dig.zero, 2, 0, (⟨#[112, 53]⟩ : ByteArray), none, 0, 0⟩ : Rec)) (D := (X5 ++ (X ++ ((bn2, .cells ([.map (some bm2)]).toArray 57 (0, 0)) :: [])))) (ds_app (fun p hp => (List.mem_append_left _ hp)) (ds_app (fun p hp => (List.mem_append_right _ (List.mem_append_left _ hp))) (ds_cons (List.mem_append_right _ (List.mem_append_right _ List.mem_cons_self)) ds_nil))) (List.mem_append_right _ (List.mem_append_right _ List.mem_cons_self)) him5 hfa5 SliceAt.nil) ?_)
        rintro _ _ ⟨X6, es6, c6, m6, rfl, rfl, him6, hfa6, hlm6⟩
        have hp5 := many_p5 hlm2
        have hres := hp5.1
        have hlm3 := hlm6
        have hm6 : m6.length = 1024 := by rw [← LM_length, hlm3]; exact hp5.2.2
        rw [show mayL (LM m5) ((⟨7, 1, Dig.zero, 2, 0, (⟨#[112, 53]⟩ : ByteArray), none, 0, 0⟩ : Rec)) ([]) = 0 from hres]
        refine l_op rfl (o_val rfl rfl (r_assign rfl rfl) ?_)
        refine l_nil ?_
        refine e_next ?_
        refine t_seq ?_
        refine t_region ?_
        refine l_op rfl (o_val rfl rfl (r_move rfl rfl) ?_)
        refine l_op rfl (o_call rfl rfl rfl Try.call16 rfl (stat_c (k := (⟨#[112, 53]⟩ : ByteArray)) (D := (X6 ++ (X5 ++ (X ++ ((bn2, .cells ([.map (some bm2)]).toArray 57 (0, 0)) :: []))))) (ds_app (fun p hp => (List.mem_append_left _ hp)) (ds_app (fun p hp => (List.mem_append_right _ (List.mem_cons_of_mem _ (List.mem_append_left _ hp)))) (ds_app (fun p hp => (List.mem_append_right _ (List.mem_cons_of_mem _ (List.mem_append_right _ (List.mem_append_left _ hp))))) (ds_cons (List.mem_append_right _ (List.mem_cons_of_mem _ (List.mem_append_right _ (List.mem_append_right _ List.mem_cons_self)))) ds_nil)))) (List.mem_append_right _ (List.mem_append_right _ (List.mem_append_right _ List.mem_cons_self))) him6 (List.mem_append_right _ List.mem_cons_self) hfa6) ?_)
        rintro _ _ ⟨f7, e7, X7, rfl, rfl, hst7⟩
        obtain ⟨rfl, hsq⟩ := many_stat (by rw [hlm3]; exact hp5.2.1) hst7
        refine l_op rfl (o_val rfl rfl (r_move rfl rfl) ?_)
        refine l_op rfl (o_val rfl rfl (r_extract (v := .agg (encFile f7).toArray) rfl rfl rfl) ?_)
        refine l_op rfl (o_val rfl rfl (r_extract (v := .int .i64 (0)) rfl rfl rfl) ?_)
        refine l_op rfl (o_alloc rfl rfl rfl Try.zeroValue48 rfl ?_)
        intro b8
        refine l_op rfl (o_storeAgg (ys := encFile f7) rfl rfl rfl rfl rfl Try.sizeOf48 .head rfl ?_)
        refine l_op rfl (o_val rfl rfl (r_assign rfl rfl) ?_)
        refine l_nil ?_
        refine e_next ?_
        refine t_seq ?_
        refine t_region ?_
        refine l_op rfl (o_val rfl rfl (r_move rfl rfl) ?_)
        refine l_op rfl (o_val rfl rfl (Run.eq (v' := .bool true) (r_eq rfl rfl rfl) (by rfl)) ?_)
        refine l_op rfl (o_val rfl rfl (r_move rfl rfl) ?_)
        refine l_yes rfl rfl rfl (o_val rfl rfl (r_move rfl rfl) ?_)
        refine l_yes rfl rfl rfl (o_val rfl rfl (Run.eq (v' := .bool true) (r_eq rfl rfl rfl) (by rfl)) ?_)
        refine l_op rfl (o_val rfl rfl (r_pickt rfl rfl rfl) ?_)
        refine l_op rfl (o_val rfl rfl (r_move rfl rfl) ?_)
        refine l_yes rfl rfl rfl (o_val rfl rfl (r_move rfl rfl) ?_)
        refine l_yes rfl rfl rfl (o_val rfl rfl (Run.eq (v' := .bool true) (r_eq rfl rfl rfl) (by rfl)) ?_)
        refine l_op rfl (o_val rfl rfl (r_pickt rfl rfl rfl) ?_)
        refine l_op rfl (o_val rfl rfl (r_move rfl rfl) ?_)
        refine l_yes rfl rfl rfl (o_val rfl rfl (r_fieldAddr (k := 2) rfl rfl Try.underlying48 rfl Try.sizeOf3 rfl rfl) ?_)
        refine l_yes rfl rfl rfl (o_val rfl rfl (r_load (v := .int .i64 (f7.seq)) rfl Try.isAgg3 rfl List.mem_cons_self rfl) ?_)
        refine l_yes rfl rfl rfl (o_val rfl rfl (r_eq rfl rfl rfl) ?_)
        have ht9 : decide (f7.seq = 7) = true := decide_eq_true (by exact hsq)
        refine l_op rfl (o_val rfl rfl (r_pickt rfl rfl rfl) ?_)
        refine l_op rfl (o_val rfl rfl (r_move rfl rfl) ?_)
        refine l_yesh rfl rfl rfl ht9 (o_val rfl rfl (r_move rfl rfl) ?_)
        refine l_yesh rfl rfl rfl ht9 (o_call rfl rfl rfl Try.call11 rfl (list_c (k := (⟨#[]⟩ : ByteArray)) (D := (X7 ++ (X6 ++ (X5 ++ (X ++ ((bn2, .cells ([.map (some bm2)]).toArray 57 (0, 0)) :: [])))))) (ds_app (fun p hp => (List.mem_cons_of_mem _ (List.mem_append_left _ hp))) (ds_app (fun p hp => (List.mem_cons_of_mem _ (List.mem_append_right _ (List.mem_append_left _ hp)))) (ds_app (fun p hp => (List.mem_cons_of_mem _ (List.mem_append_right _ (List.mem_append_right _ (List.mem_cons_of_mem _ (List.mem_append_left _ hp)))))) (ds_app (fun p hp => (List.mem_cons_of_mem _ (List.mem_append_right _ (List.mem_append_right _ (List.mem_cons_of_mem _ (List.mem_append_right _ (List.mem_append_left _ hp))))))) (ds_cons (List.mem_cons_of_mem _ (List.mem_append_right _ (List.mem_append_right _ (List.mem_cons_of_mem _ (List.mem_append_right _ (List.mem_append_right _ List.mem_cons_self)))))) ds_nil))))) (List.mem_append_right _ (List.mem_append_right _ (List.mem_append_right _ (List.mem_append_right _ List.mem_cons_self)))) him6 (List.mem_cons_of_mem _ (List.mem_append_right _ (List.mem_append_right _ List.mem_cons_self))) (FilesAt.mono hfa6 (fun p hp => (List.mem_append_right _ hp))) (by omega)) ?_)
        rintro _ _ ⟨X10, a10, n10, c10, fl10, rfl, rfl, hfl10, hra10, hpm10, hst10⟩
        refine l_yesh rfl rfl rfl ht9 (o_val rfl rfl (r_len rfl rfl Try.underlying32) ?_)
        refine l_yesh rfl rfl rfl ht9 (o_val rfl rfl (r_eq rfl rfl rfl) ?_)
        have ht11 : decide ((n10 : Int) = 1024) = true := decide_eq_true (by have h1 := hpm10.length_eq; have h2 := hfl10.len; rw [List.filter_eq_self.2 (fun p _ => hasPre_nil _), RL_length, LM_length] at h1; omega)
        refine l_op rfl (o_val rfl rfl (r_pickth rfl rfl ht9 rfl) ?_)
        refine l_op rfl (o_val rfl rfl (r_move rfl rfl) ?_)
        refine l_yesh rfl rfl rfl ht11 (o_call rfl rfl rfl Try.call12 rfl (alive_c) ?_)
        rintro _ _ ⟨rfl, X12, rfl⟩
        refine l_op rfl (o_val rfl rfl (r_pickth rfl rfl ht11 rfl) ?_)
        refine l_op rfl (o_val rfl rfl (r_assign rfl rfl) ?_)
        refine l_nil ?_
        refine Then.slots (.cons (t := 2) rfl .nil) ?_
        refine e_next ?_
        refine t_ret ?_
        exact e_ret rfl (.tmp rfl .nil) ⟨rfl, Pre.ex (.app (.app (.cons (.app (.app (.cons (.app (.app (.cons .refl)))))))))⟩

end Go.Sal.Nm
