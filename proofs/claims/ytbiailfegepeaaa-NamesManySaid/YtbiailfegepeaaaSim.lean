/- The program's namespace and the documents' one: the same files, whatever the records. -/
import Derived.Test.YtbiailfegepeaaaSpec2
namespace Go.Sal

structure Sim (m r : LMap) : Prop where
  perm : r.Perm m
  nd : (m.map (·.1)).Nodup
  sorted : r.Pairwise (fun x y => strLt x.1 y.1 = true)
  path : ∀ p ∈ m, p.1 ≠ ⟨#[]⟩

theorem Sim.nil : Sim [] [] := ⟨.refl _, .nil, .nil, by simp⟩

theorem mget_mem {m : LMap} (hn : (m.map (·.1)).Nodup) {k : ByteArray} {f : FileL} : mget m k = some f ↔ (k, f) ∈ m := by
  constructor
  · intro h
    unfold mget at h
    cases hf : m.find? (fun p => decide (p.1 = k)) with
    | none => rw [hf] at h; cases h
    | some p =>
      rw [hf] at h
      simp only [Option.map_some, Option.some.injEq] at h
      have hk := List.find?_some hf
      simp only [decide_eq_true_eq] at hk
      have hm := List.mem_of_find?_eq_some hf
      subst hk; subst h
      exact hm
  · intro h
    obtain ⟨i, hi⟩ := List.getElem?_of_mem h
    exact mget_of_at hn hi

theorem Sim.nd2 {m r : LMap} (h : Sim m r) : (r.map (·.1)).Nodup := ((h.perm.map (·.1)).nodup_iff).2 h.nd

theorem Sim.get {m r : LMap} (h : Sim m r) (k : ByteArray) : mget r k = mget m k := by
  cases hm : mget m k with
  | none =>
    cases hr : mget r k with
    | none => rfl
    | some f =>
      have h1 := (mget_mem h.nd2).1 hr
      have h2 := (mget_mem h.nd).2 (h.perm.subset h1)
      rw [hm] at h2; cases h2
  | some f =>
    have h1 := (mget_mem h.nd).1 hm
    exact (mget_mem h.nd2).2 (h.perm.symm.subset h1)

theorem Sim.may {m r : LMap} (h : Sim m r) (x : Rec) (ps : List Piece) : mayL r x ps = mayL m x ps := by
  unfold mayL
  rw [h.get, h.perm.length_eq]

theorem insGo_del {k : ByteArray} {f : FileL} : ∀ (r : LMap), insGo k f true r = r.filter (fun p => decide (p.1 ≠ k))
  | [] => rfl
  | p :: r => by
    simp only [insGo, Bool.not_true, Bool.false_and, Bool.true_or, List.filter_cons]
    rw [insGo_del r]
    by_cases h : p.1 = k <;> simp [h]

theorem insGo_perm {k : ByteArray} {f : FileL} : ∀ (r : LMap), (insGo k f false r).Perm ((k, f) :: r.filter (fun p => decide (p.1 ≠ k)))
  | [] => by simp [insGo]
  | p :: r => by
    simp only [insGo, Bool.not_false, Bool.true_and, Bool.false_or]
    by_cases hlt : strLt p.1 k = true
    · have hne : p.1 ≠ k := fun e => by rw [e, strLt_irrefl] at hlt; cases hlt
      simp only [hlt, Bool.not_true]
      rw [if_neg (by simp), if_pos hne, List.filter_cons, if_pos (by simpa using hne)]
      simp only [List.nil_append, List.singleton_append]
      exact ((insGo_perm r).cons p).trans (List.Perm.swap ..)
    · have hlt' : strLt p.1 k = false := by simpa using hlt
      simp only [hlt', Bool.not_false, if_true]
      rw [insGo_del r, List.filter_cons]
      by_cases hne : p.1 = k
      · simp [hne]
      · simp [hne]

theorem insGo_sorted {k : ByteArray} {f : FileL} : ∀ {r : LMap}, r.Pairwise (fun x y => strLt x.1 y.1 = true) → (insGo k f false r).Pairwise (fun x y => strLt x.1 y.1 = true)
  | [], _ => by simp [insGo]
  | p :: r, h => by
    have hp := List.pairwise_cons.1 h
    simp only [insGo, Bool.not_false, Bool.true_and, Bool.false_or]
    by_cases hlt : strLt p.1 k = true
    · have hne : p.1 ≠ k := fun e => by rw [e, strLt_irrefl] at hlt; cases hlt
      simp only [hlt, Bool.not_true]
      rw [if_neg (by simp), if_pos hne]
      simp only [List.nil_append, List.singleton_append]
      refine List.pairwise_cons.2 ⟨fun q hq => ?_, insGo_sorted hp.2⟩
      have := (insGo_perm (k := k) (f := f) r).subset hq
      rcases List.mem_cons.1 this with rfl | hm
      · exact hlt
      · exact hp.1 q (List.mem_filter.1 hm).1
    · have hlt' : strLt p.1 k = false := by simpa using hlt
      simp only [hlt', Bool.not_false, if_true]
      rw [insGo_del r]
      have e : [(k, f)] ++ (if p.1 ≠ k then [p] else []) ++ r.filter (fun p => decide (p.1 ≠ k)) = (k, f) :: (p :: r).filter (fun p => decide (p.1 ≠ k)) := by
        rw [List.filter_cons]
        by_cases hne : p.1 = k <;> simp [hne]
      rw [e]
      refine List.pairwise_cons.2 ⟨fun q hq => ?_, h.filter _⟩
      obtain ⟨hq1, hq2⟩ := List.mem_filter.1 hq
      have hq2 : q.1 ≠ k := by simpa using hq2
      have hnlt : strLt q.1 k = false := by
        rcases List.mem_cons.1 hq1 with rfl | hq1
        · exact hlt'
        · cases hc : strLt q.1 k
          · rfl
          · have := strLt_trans (hp.1 q hq1) hc
            rw [hlt'] at this; cases this
      cases hc : strLt k q.1
      · exact absurd (strLt_total hnlt hc) hq2
      · rfl

theorem mset_perm {m : LMap} (hn : (m.map (·.1)).Nodup) (k : ByteArray) (f : FileL) : (mset m k f).Perm ((k, f) :: m.filter (fun p => decide (p.1 ≠ k))) := by
  cases hg : mget m k with
  | none =>
    rw [mset_new hg]
    have : m.filter (fun p => decide (p.1 ≠ k)) = m := List.filter_eq_self.2 fun p hp => by simpa using (mget_none.1 hg) p hp
    rw [this]
    exact List.perm_append_comm
  | some g =>
    have hm := (mget_mem hn).1 hg
    unfold mset
    rw [hg]
    simp only [Option.isSome_some, if_true]
    clear hg
    induction m with
    | nil => cases hm
    | cons p m ih =>
      simp only [List.map_cons, List.nodup_cons] at hn
      rw [List.map_cons, List.filter_cons]
      by_cases hp : p.1 = k
      · have hno : ∀ q ∈ m, q.1 ≠ k := fun q hq e => hn.1 (by rw [hp, ← e]; exact List.mem_map.2 ⟨q, hq, rfl⟩)
        have e1 : m.map (fun q => if q.1 = k then (k, f) else q) = m := by
          have : m.map (fun q => if q.1 = k then (k, f) else q) = m.map id := List.map_congr_left fun q hq => by rw [if_neg (hno q hq)]; rfl
          rw [this, List.map_id]
        have e2 : m.filter (fun p => decide (p.1 ≠ k)) = m := List.filter_eq_self.2 fun q hq => by simpa using hno q hq
        rw [if_pos hp, if_neg (by simpa using hp), e2]
        have e1' := e1
        first
          | (rw [e1'])
          | (simp only [e1'] ; exact List.Perm.refl _)
          | exact (by simpa using List.Perm.refl _)
      · rw [if_neg hp, if_pos (by simpa using hp)]
        have hm' : (k, g) ∈ m := by
          rcases List.mem_cons.1 hm with e | e
          · exact absurd (by rw [← e]) hp
          · exact e
        exact ((ih hn.2 hm').cons p).trans (List.Perm.swap ..)

theorem Sim.step {m r : LMap} (h : Sim m r) {x : Rec} {ps : List Piece} (h0 : mayL m x ps = 0) : Sim (applyL m x ps) (rapplyL r x ps) := by
  have hr0 : mayL r x ps = 0 := by rw [h.may]; exact h0
  have hok := may_ok (m := m) (r := x) (ps := ps) (by omega)
  unfold applyL rapplyL
  rw [if_pos h0, if_pos hr0]
  have hfil : ∀ k : ByteArray, (r.filter (fun p => decide (p.1 ≠ k))).Perm (m.filter (fun p => decide (p.1 ≠ k))) := fun k => h.perm.filter _
  have hfit : fits x ps = true := by
    unfold recOk at hok
    simp only [Bool.and_eq_true] at hok
    exact hok.2
  by_cases hk2 : x.kind = 2
  · rw [if_pos hk2, show decide (x.kind ≠ 2) = false by simp [hk2]]
    have hp : ⟨#[]⟩ ≠ x.path := by
      unfold fits at hfit
      rw [if_neg (by omega), if_neg (by omega), if_pos hk2] at hfit
      simp only [Bool.and_eq_true] at hfit
      intro e
      have h1 := hfit.1.2
      rw [← e] at h1
      exact absurd h1 (by decide)
    have hms := mset_perm h.nd x.path ⟨(recSize ps).getD 0, x.seq, ps⟩
    refine ⟨?_, keys_mset h.nd _ _, insGo_sorted h.sorted, fun p hp2 => ?_⟩
    · exact (insGo_perm r).trans (((hfil _).cons _).trans hms.symm)
    · rcases List.mem_cons.1 (hms.subset hp2) with rfl | hq
      · exact fun e => hp e.symm
      · exact h.path p (List.mem_filter.1 hq).1
  · rw [if_neg hk2, show decide (x.kind ≠ 2) = true by simp [hk2], insGo_del]
    by_cases hk3 : x.kind = 3
    · rw [if_pos hk3]
      unfold mdel
      refine ⟨hfil _, ?_, h.sorted.filter _, fun p hp => h.path p (List.mem_filter.1 hp).1⟩
      exact List.Nodup.sublist (List.filter_sublist.map _) h.nd
    · rw [if_neg hk3]
      have hpath : x.path = ⟨#[]⟩ := by
        unfold fits at hfit
        by_cases hk1 : x.kind = 1
        · rw [if_pos hk1] at hfit
          simp only [Bool.and_eq_true, decide_eq_true_eq] at hfit
          exact hfit.1.2
        · rw [if_neg hk1, if_neg hk3, if_neg hk2] at hfit; cases hfit
      have : r.filter (fun p => decide (p.1 ≠ x.path)) = r := List.filter_eq_self.2 fun p hp => by
        rw [hpath]; simpa using h.path p (h.perm.subset hp)
      rw [this]
      exact h

theorem sim_run : ∀ {l : List RP2} {m r m' : LMap}, Sim m r → runL m l = some m' → ∃ r', runR r l = some r' ∧ Sim m' r'
  | [], m, r, m', h, hm => by simp [runL] at hm; subst hm; exact ⟨r, rfl, h⟩
  | x :: l, m, r, m', h, hm => by
    simp only [runL] at hm
    split at hm
    · rename_i h0
      simp only [runR]
      rw [h.may, if_pos h0]
      exact sim_run (h.step h0) hm
    · cases hm
theorem sim_run2 : ∀ {l : List RP2} {m r r' : LMap}, Sim m r → runR r l = some r' → ∃ m', runL m l = some m' ∧ Sim m' r'
  | [], m, r, r', h, hm => by simp [runR] at hm; subst hm; exact ⟨m, rfl, h⟩
  | x :: l, m, r, r', h, hm => by
    simp only [runR] at hm
    rw [h.may] at hm
    split at hm
    · rename_i h0
      simp only [runL]
      rw [if_pos h0]
      exact sim_run2 (h.step h0) hm
    · cases hm

/-- Both stop at the first record that can't be done, for one reason. -/
theorem folds_bad {l : List RP2} {k k' : Nat} {lm lr : LMap} {x y : RP2} (h1 : runL [] (l.take k) = some lm) (hx : l[k]? = some x) (h0 : mayL lm x.1 x.2 ≠ 0) (h2 : runR [] (l.take k') = some lr) (hy : l[k']? = some y) (h3 : mayL lr y.1 y.2 ≠ 0) :
    k = k' ∧ mayL lm x.1 x.2 = mayL lr y.1 y.2 := by
  obtain ⟨lm', hm', hs⟩ := sim_run2 Sim.nil h2
  have h3' : mayL lm' y.1 y.2 ≠ 0 := by rw [← hs.may]; exact h3
  have aux : ∀ {k k' : Nat} {m m' : LMap} {x : RP2}, runL [] (l.take k) = some m → l[k]? = some x → mayL m x.1 x.2 ≠ 0 → runL [] (l.take k') = some m' → ¬ k < k' := fun {k k' m m' x} a b c d hlt => by
    have e : (l.take k').take k = l.take k := by rw [List.take_take, Nat.min_eq_left (by omega)]
    have := runL_bad (l := l.take k') (k := k) (by rw [e]; exact a) (by rw [List.getElem?_take_of_lt hlt]; exact b) c
    rw [d] at this; cases this
  have hk : k = k' := by
    have a := aux h1 hx h0 hm'
    have b := aux hm' hy h3' h1
    omega
  subst hk
  rw [hx] at hy
  injection hy with hy
  subst hy
  rw [h1] at hm'
  injection hm' with hm'
  subst hm'
  exact ⟨rfl, (hs.may _ _).symm⟩
theorem folds_no1 {l : List RP2} {k : Nat} {lm lr : LMap} {x : RP2} (h1 : runL [] (l.take k) = some lm) (hx : l[k]? = some x) (h0 : mayL lm x.1 x.2 ≠ 0) (h2 : runR [] l = some lr) : False := by
  obtain ⟨lm', hm', _⟩ := sim_run2 Sim.nil h2
  rw [runL_bad h1 hx h0] at hm'; cases hm'
theorem folds_no2 {l : List RP2} {k : Nat} {lm lr : LMap} {x : RP2} (h1 : runL [] l = some lm) (h2 : runR [] (l.take k) = some lr) (hx : l[k]? = some x) (h0 : mayL lr x.1 x.2 ≠ 0) : False := by
  obtain ⟨m2, hm2, hs⟩ := sim_run2 Sim.nil h2
  rw [runL_bad hm2 hx (by rw [← hs.may]; exact h0)] at h1; cases h1

theorem sorted_unique : ∀ {a b : LMap}, a.Perm b → a.Pairwise (fun x y => strLt x.1 y.1 = true) → b.Pairwise (fun x y => strLt x.1 y.1 = true) → a = b
  | [], b, h, _, _ => (List.nil_perm.1 h).symm
  | p :: a, [], h, _, _ => absurd h.length_eq (by simp)
  | p :: a, q :: b, h, ha, hb => by
    have hpa := List.pairwise_cons.1 ha
    have hqb := List.pairwise_cons.1 hb
    have e : p = q := by
      rcases List.mem_cons.1 (h.subset List.mem_cons_self) with e | hp
      · exact e
      · rcases List.mem_cons.1 (h.symm.subset (List.mem_cons_self (a := q) (l := b))) with e | hq
        · exact e.symm
        · have h1 := hqb.1 p hp
          have h2 := hpa.1 q hq
          have := strLt_trans h1 h2
          rw [strLt_irrefl] at this; cases this
    subst e
    rw [sorted_unique (List.perm_cons p |>.1 h) hpa.2 hqb.2]

theorem strict_of {r : LMap} (hn : (r.map (·.1)).Nodup) (h : r.Pairwise (fun x y => strLt y.1 x.1 = false)) : r.Pairwise (fun x y => strLt x.1 y.1 = true) := by
  have hn' : r.Pairwise (fun x y => x.1 ≠ y.1) := by rw [List.nodup_iff_pairwise_ne, List.pairwise_map] at hn; exact hn
  refine (h.and hn').imp fun {a b} ⟨h1, h2⟩ => ?_
  cases hc : strLt a.1 b.1
  · exact absurd (strLt_total hc h1) h2
  · rfl

theorem hasPre_nil (s : ByteArray) : hasPre s ⟨#[]⟩ = true := by
  unfold hasPre
  simp only [Bool.and_eq_true, decide_eq_true_eq]
  refine ⟨by show (s.size : Int) ≥ 0; omega, ?_⟩
  apply ByteArray.ext
  simp
  exact .inl rfl

/-- What List shows is the documents' row, as far as the paths begin so. -/
theorem list_same {m r : LMap} (h : Sim m r) {a : LMap} {pre : ByteArray} (hp : a.Perm (m.filter fun p => hasPre p.1 pre)) (hs : a.Pairwise (fun x y => strLt y.1 x.1 = false)) : a = r.filter (fun p => hasPre p.1 pre) := by
  have hp2 : a.Perm (r.filter fun p => hasPre p.1 pre) := hp.trans (h.perm.symm.filter _)
  have hn : (a.map (·.1)).Nodup := by
    rw [(hp.map (·.1)).nodup_iff]
    exact List.Nodup.sublist (List.filter_sublist.map _) h.nd
  exact sorted_unique hp2 (strict_of hn hs) (h.sorted.filter _)
theorem list_all {m r : LMap} (h : Sim m r) {a : LMap} (hp : a.Perm (m.filter fun p => hasPre p.1 ⟨#[]⟩)) (hs : a.Pairwise (fun x y => strLt y.1 x.1 = false)) : a = r := by
  rw [list_same h hp hs]
  exact List.filter_eq_self.2 fun p _ => hasPre_nil _
theorem runL_len : ∀ {l : List RP2} {m m' : LMap}, (m.map (·.1)).Nodup → runL m l = some m' → m'.length ≤ m.length + l.length
  | [], m, m', _, h => by simp [runL] at h; subst h; simp
  | x :: l, m, m', hn, h => by
    simp only [runL] at h
    split at h
    · rename_i h1
      have hl : (applyL m x.1 x.2).length ≤ m.length + 1 ∧ ((applyL m x.1 x.2).map (·.1)).Nodup := by
        unfold applyL
        rw [if_pos h1]
        have h2 := List.length_filter_le (fun p : ByteArray × FileL => decide (p.1 ≠ x.1.path)) m
        by_cases hk2 : x.1.kind = 2
        · rw [if_pos hk2]
          refine ⟨?_, keys_mset hn _ _⟩
          have := (mset_perm hn x.1.path ⟨(recSize x.2).getD 0, x.1.seq, x.2⟩).length_eq
          simp only [List.length_cons] at this
          omega
        · rw [if_neg hk2]
          by_cases hk3 : x.1.kind = 3
          · rw [if_pos hk3]
            exact ⟨by unfold mdel; omega, List.Nodup.sublist (List.filter_sublist.map _) hn⟩
          · rw [if_neg hk3]
            exact ⟨by omega, hn⟩
      have := runL_len hl.2 h
      simp only [List.length_cons]
      omega
    · cases h
end Go.Sal
