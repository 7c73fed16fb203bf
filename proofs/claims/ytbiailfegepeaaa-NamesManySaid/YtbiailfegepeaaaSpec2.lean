/- The documents' answers for names, as plain functions, and that they are the program's. -/
import Derived.Test.YtbiailfegepeaaaSpec
import Derived.Test.YtbiailfegepeaaaRange
namespace Go.Sal

/-! ### salternref13 -/
def sumN : List Piece → Int
  | [] => 0
  | p :: r => p.n + sumN r
def goodP (p : Piece) : Prop := 1 ≤ p.n ∧ p.n ≤ 4096

theorem sumN_take {l : List Piece} {k : Nat} {p : Piece} (hp : l[k]? = some p) : sumN (l.take (k + 1)) = sumN (l.take k) + p.n := by
  induction l generalizing k with
  | nil => simp at hp
  | cons q l ih =>
    cases k with
    | zero => simp at hp; subst hp; simp [sumN]
    | succ k =>
      simp only [List.take_succ_cons, sumN]
      rw [ih (by simpa using hp)]
      omega

theorem sumN_nonneg : ∀ {l : List Piece}, (∀ p ∈ l, goodP p) → 0 ≤ sumN l
  | [], _ => Int.le_refl _
  | p :: l, h => by
    have := (h p (by simp)).1
    have := sumN_nonneg (fun q hq => h q (by simp [hq]) : ∀ q ∈ l, goodP q)
    simp only [sumN]; omega

theorem sizeGo_sum {acc : Int} : ∀ {l : List Piece}, (∀ p ∈ l, goodP p) → acc ≤ 1048576 → sizeGo acc l = if acc + sumN l ≤ 1048576 then some (acc + sumN l) else none
  | [], _, h => by simp [sizeGo, sumN, h]
  | p :: l, h, ha => by
    have hp := h p (by simp)
    have hl : ∀ q ∈ l, goodP q := fun q hq => h q (by simp [hq])
    have h0 := sumN_nonneg hl
    unfold goodP at hp
    simp only [sizeGo]
    rw [show sumN (p :: l) = p.n + sumN l from rfl, if_neg (by omega)]
    by_cases hc : acc + p.n > 1048576
    · rw [if_pos hc, if_neg (by omega)]
    · rw [if_neg hc, sizeGo_sum hl (by omega), show acc + p.n + sumN l = acc + (p.n + sumN l) by omega]

theorem sizeGo_badP {acc : Int} : ∀ {l : List Piece} {p : Piece}, p ∈ l → ¬ goodP p → sizeGo acc l = none
  | q :: l, p, h, hb => by
    simp only [sizeGo]
    split
    · rfl
    · rename_i h1
      split
      · rfl
      · rcases List.mem_cons.1 h with rfl | h
        · exact absurd (show goodP p by unfold goodP; omega) hb
        · exact sizeGo_badP h hb

theorem sizeV_none {l : List Piece} (h : recSize l = none) : sizeV l = .tuple #[.int .i64 0, .int .i64 130] := by unfold sizeV; rw [h]
theorem sizeV_badP {l : List Piece} {k : Nat} {p : Piece} (hp : l[k]? = some p) (hb : p.n < 1 ∨ p.n > 4096) : sizeV l = .tuple #[.int .i64 0, .int .i64 130] := by
  refine sizeV_none ?_
  unfold recSize
  split
  · rfl
  · exact sizeGo_badP (List.mem_of_getElem? hp) (by unfold goodP; omega)
theorem sizeV_sum {l : List Piece} {k : Nat} (hl : ¬ (l.length : Int) > 4096) (hk : l.length ≤ k) (hg : ∀ j : Nat, j < k → ∀ p, l[j]? = some p → goodP p) :
    sizeV l = if sumN (l.take k) > 1048576 then .tuple #[.int .i64 0, .int .i64 130] else .tuple #[.int .i64 (sumN (l.take k)), .int .i64 0] := by
  rw [List.take_of_length_le hk]
  have hg' : ∀ p ∈ l, goodP p := fun p hp => by
    obtain ⟨j, hj⟩ := List.getElem?_of_mem hp
    exact hg j (by have := (List.getElem?_eq_some_iff.1 hj).1; omega) p hj
  have := sizeGo_sum (acc := 0) hg' (by omega)
  rw [Int.zero_add] at this
  have hr : recSize l = if sumN l ≤ 1048576 then some (sumN l) else none := by unfold recSize; rw [if_neg (by omega)]; exact this
  by_cases hc : sumN l > 1048576
  · rw [if_pos hc, sizeV_none (by rw [hr, if_neg (by omega)])]
  · rw [if_neg hc, sizeV_some (by rw [hr, if_pos (by omega)])]

theorem goodP_step {l : List Piece} {k : Int} {p : Piece} (hg : ∀ j : Nat, (j : Int) < k → ∀ p, l[j]? = some p → goodP p) (h0 : 0 ≤ k) (hp : l[k.toNat]? = some p) (h : 1 ≤ p.n ∧ p.n ≤ 4096) :
    ∀ j : Nat, (j : Int) < k + 1 → ∀ p, l[j]? = some p → goodP p := fun j hj q hq => by
  by_cases e : (j : Int) < k
  · exact hg j e q hq
  · obtain rfl : j = k.toNat := by omega
    rw [hp] at hq
    injection hq with hq
    subst hq
    exact h

theorem sizeV_parts2 (l : List Piece) : ∃ z e : Int, sizeV l = .tuple #[.int .i64 z, .int .i64 e] ∧ ((recSize l).isSome = decide (e = 0)) ∧ ∀ w, recSize l = some w → z = w := by
  unfold sizeV
  cases recSize l with
  | none => exact ⟨0, 130, rfl, by simp, by simp⟩
  | some z => exact ⟨z, 0, rfl, by simp, by simp⟩

def hasPre (s p : ByteArray) : Bool := decide ((s.size : Int) ≥ (p.size : Int)) && decide (s.extract 0 (Int.toNat (p.size : Int)) = p)
theorem nodup_lt_length : ∀ (n : Nat) (l : List Nat), l.Nodup → (∀ i ∈ l, i < n) → l.length ≤ n
  | 0, [], _, _ => Nat.le_refl _
  | 0, i :: l, _, h => absurd (h i (by simp)) (by omega)
  | n + 1, l, hn, h => by
    have h1 := nodup_lt_length n (l.erase n) (hn.erase n) (fun i hi => by
      have := (List.Nodup.mem_erase_iff hn).1 hi
      have := h i this.2
      omega)
    by_cases hm : n ∈ l
    · rw [List.length_erase_of_mem hm] at h1; omega
    · rw [List.erase_of_not_mem hm] at h1; omega
theorem IterAt.len {α : Type} {es : Array MapEntry} {m : List (ByteArray × α)} {seen : Array Nat} {vl : List (ByteArray × α)} (h : IterAt es m seen vl) : vl.length ≤ es.size := by
  obtain ⟨vis, hn, hlt, _, hv⟩ := h
  have h1 := congrArg List.length hv
  simp only [List.length_map] at h1
  rw [← h1]
  exact nodup_lt_length _ _ hn hlt

/-! ### salternref15 -/

def encFL (x : File × FileL) : List Value := encFile x.1
def RepAll (D : Heap) (fl : List (File × FileL)) : Prop := ∀ x ∈ fl, FRep D x.1.path x.1 x.2
theorem RepAll.mono {D D' : Heap} {fl : List (File × FileL)} (h : RepAll D fl) (hd : ∀ p, p ∈ D → p ∈ D') : RepAll D' fl := fun x hx => (h x hx).mono hd
theorem RepAll.snoc {D : Heap} {fl : List (File × FileL)} {x : File × FileL} (h : RepAll D fl) (hx : FRep D x.1.path x.1 x.2) : RepAll D (fl ++ [x]) := fun y hy => by
  rcases List.mem_append.1 hy with hy | hy
  · exact h y hy
  · simp only [List.mem_singleton] at hy; subst hy; exact hx
def RL (fl : List (File × FileL)) : LMap := fl.map fun x => (x.1.path, x.2)
theorem RL_length (fl : List (File × FileL)) : (RL fl).length = fl.length := by simp [RL]
theorem RL_append (a b : List (File × FileL)) : RL (a ++ b) = RL a ++ RL b := by simp [RL]

theorem mget_cons {α : Type} (p : ByteArray × α) (m : List (ByteArray × α)) (k : ByteArray) : mget (p :: m) k = if p.1 = k then some p.2 else mget m k := by
  unfold mget
  rw [List.find?_cons]
  by_cases h : p.1 = k
  · simp [h]
  · simp [h]

theorem LM_filter_snoc {vl : FMap} {p : ByteArray × (File × FileL)} {f : ByteArray × (File × FileL) → Bool} : LM ((vl ++ [p]).filter f) = if f p = true then LM (vl.filter f) ++ [(p.1, p.2.2)] else LM (vl.filter f) := by
  rw [List.filter_append]
  by_cases h : f p = true
  · rw [if_pos h]; simp [LM, h]
  · rw [if_neg h]; simp [LM, h]
theorem FRep.self {D : Heap} {k : ByteArray} {f : File} {l : FileL} (h : FRep D k f l) : FRep D f.path f l := by rw [h.path]; exact h
theorem RepAll.perm {D : Heap} {a b : List (File × FileL)} (h : RepAll D a) (hp : b.Perm a) : RepAll D b := fun x hx => h x (hp.subset hx)
theorem list_perm {vl m : FMap} {ls l' : List (File × FileL)} {f : ByteArray → Bool} (hp : vl.Perm m) (hc : RL ls = LM (vl.filter fun p => f p.1)) (hl : l'.Perm ls) : (RL l').Perm ((LM m).filter fun p => f p.1) := by
  have h1 : (RL l').Perm (RL ls) := hl.map _
  rw [hc] at h1
  refine h1.trans ?_
  have h2 : LM (vl.filter fun p => f p.1) = (LM vl).filter fun p => f p.1 := by unfold LM; rw [List.filter_map]; rfl
  rw [h2]
  exact (hp.map _).filter _
theorem list_sorted {l' : List (File × FileL)} (h : l'.Pairwise (fun x y => strLt y.1.path x.1.path = false)) : (RL l').Pairwise (fun x y => strLt y.1 x.1 = false) := by
  unfold RL
  rw [List.pairwise_map]
  exact h

theorem RL_at {a b : List (File × FileL)} {i : Nat} {x y : File × FileL} (h : RL a = RL b) (hx : a[i]? = some x) (hy : b[i]? = some y) : x.1.path = y.1.path ∧ x.2 = y.2 := by
  have h1 := congrArg (fun l => l[i]?) h
  simp only [RL, List.getElem?_map, hx, hy, Option.map_some, Option.some.injEq, Prod.mk.injEq] at h1
  exact h1

theorem find_none {fl : List (File × FileL)} {k : ByteArray} {i : Int} (hi : (fl.length : Int) ≤ i) (h : ∀ j : Nat, (j : Int) < i → ∀ x, fl[j]? = some x → x.1.path ≠ k) : mget (RL fl) k = none := by
  rw [mget_none]
  intro p hp
  obtain ⟨x, hx, rfl⟩ := List.mem_map.1 hp
  obtain ⟨j, hj⟩ := List.getElem?_of_mem hx
  exact h j (by have := (List.getElem?_eq_some_iff.1 hj).1; omega) x hj

theorem find_some {k : ByteArray} : ∀ {fl : List (File × FileL)} {i : Nat} {x : File × FileL}, fl[i]? = some x → x.1.path = k → (∀ j : Nat, j < i → ∀ x, fl[j]? = some x → x.1.path ≠ k) → mget (RL fl) k = some x.2
  | [], i, x, h, _, _ => by simp at h
  | y :: fl, 0, x, h, hk, _ => by
    simp at h; subst h
    show mget ((y.1.path, y.2) :: RL fl) k = _
    rw [mget_cons, if_pos hk]
  | y :: fl, i + 1, x, h, hk, hn => by
    show mget ((y.1.path, y.2) :: RL fl) k = _
    rw [mget_cons, if_neg (hn 0 (by omega) y (by simp))]
    exact find_some (by simpa using h) hk (fun j hj z hz => hn (j + 1) (by omega) z (by simpa using hz))

theorem find_step {fl : List (File × FileL)} {k : ByteArray} {i : Int} {f : File × FileL} (h : ∀ j : Nat, (j : Int) < i → ∀ x, fl[j]? = some x → x.1.path ≠ k) (h0 : 0 ≤ i) (hx : fl[i.toNat]? = some f) (hf : ¬ f.1.path = k) :
    ∀ j : Nat, (j : Int) < i + 1 → ∀ x, fl[j]? = some x → x.1.path ≠ k := fun j hj x hj2 => by
  by_cases e : (j : Int) < i
  · exact h j e x hj2
  · obtain rfl : j = i.toNat := by omega
    rw [hx] at hj2
    injection hj2 with hj2
    subst hj2
    exact hf

theorem mayL_150 {m : LMap} {r : Rec} {ps : List Piece} {i : Int} (hi : (mget m r.path).isSome = decide (0 ≤ i)) (h0 : ¬ recCheck r ps ≠ 0) (h : r.kind = 3 ∧ i < 0) : mayL m r ps = 150 := by
  unfold mayL
  rw [if_pos (recCheck_zero h0), if_pos ⟨h.1, by rw [hi]; simp; omega⟩]
theorem mayL_3 {m : LMap} {r : Rec} {ps : List Piece} {i : Int} (hi : (mget m r.path).isSome = decide (0 ≤ i)) (h0 : ¬ recCheck r ps ≠ 0) (h : (r.kind = 2 ∧ i < 0) ∧ (m.length : Int) ≥ 1024) : mayL m r ps = 3 := by
  unfold mayL
  rw [if_pos (recCheck_zero h0), if_neg (by omega), if_pos ⟨h.1.1, by rw [hi]; simp; omega, by omega⟩]
theorem mayL_0 {m : LMap} {r : Rec} {ps : List Piece} {i : Int} (hi : (mget m r.path).isSome = decide (0 ≤ i)) (h0 : ¬ recCheck r ps ≠ 0) (h : ¬ r.kind = 3 ∨ ¬ i < 0) (h' : (¬ r.kind = 2 ∨ ¬ i < 0) ∨ ¬ (m.length : Int) ≥ 1024) : mayL m r ps = 0 := by
  unfold mayL
  rw [if_pos (recCheck_zero h0), if_neg, if_neg]
  · rintro ⟨h1, h2, h3⟩
    rw [hi] at h2; simp at h2
    omega
  · rintro ⟨h1, h2⟩
    rw [hi] at h2; simp at h2
    omega

/-- How Apply lays its new row: what is ahead of the new file, the file, what is behind it. -/
def insGo (k : ByteArray) (f : FileL) : Bool → LMap → LMap
  | pt, [] => if pt then [] else [(k, f)]
  | pt, p :: r => (if (!pt && !strLt p.1 k) = true then [(k, f)] else []) ++ (if p.1 ≠ k then [p] else []) ++ insGo k f (pt || (!pt && !strLt p.1 k)) r
def rapplyL (m : LMap) (r : Rec) (ps : List Piece) : LMap :=
  if mayL m r ps = 0 then insGo r.path ⟨(recSize ps).getD 0, r.seq, ps⟩ (decide (r.kind ≠ 2)) m else m

theorem ins_step {k : ByteArray} {f : FileL} {pt : Bool} {acc m : LMap} {fl : List (File × FileL)} {i : Nat} {x : File × FileL} (h : acc ++ insGo k f pt (RL (fl.drop i)) = m) (hx : fl[i]? = some x) :
    ((acc ++ (if (!pt && !strLt x.1.path k) = true then [(k, f)] else [])) ++ (if x.1.path ≠ k then [(x.1.path, x.2)] else [])) ++ insGo k f (pt || (!pt && !strLt x.1.path k)) (RL (fl.drop (i + 1))) = m := by
  rw [← h]
  obtain ⟨hlt, hx⟩ := List.getElem?_eq_some_iff.1 hx
  rw [List.drop_eq_getElem_cons hlt, hx]
  simp only [RL, List.map_cons, insGo, List.append_assoc]

theorem rapply_bad {m : LMap} {r : Rec} {ps : List Piece} (h : mayL m r ps ≠ 0) : rapplyL m r ps = m := by unfold rapplyL; rw [if_neg h]

theorem insGo_true {k : ByteArray} {f f' : FileL} : ∀ {m : LMap}, insGo k f true m = insGo k f' true m
  | [] => rfl
  | p :: m => by simp only [insGo, Bool.not_true, Bool.false_and, Bool.true_or]; rw [insGo_true (m := m)]; rfl
theorem rapply_eq {m : LMap} {r : Rec} {ps : List Piece} {z : Int} (h : ¬ mayL m r ps ≠ 0) (hz : r.kind = 2 → recSize ps = some z) : rapplyL m r ps = insGo r.path ⟨z, r.seq, ps⟩ (decide (r.kind ≠ 2)) m := by
  unfold rapplyL
  rw [if_pos (Decidable.not_not.1 h)]
  by_cases hk : r.kind = 2
  · rw [hz hk]; rfl
  · rw [show decide (r.kind ≠ 2) = true by simpa using hk]
    exact insGo_true

theorem insGo_len {k : ByteArray} {f : FileL} : ∀ {m : LMap} {pt : Bool}, (insGo k f pt m).length ≤ m.length + (if pt then 0 else 1)
  | [], pt => by cases pt <;> simp [insGo]
  | p :: m, pt => by
    have h1 := insGo_len (k := k) (f := f) (m := m) (pt := (pt || (!pt && !strLt p.1 k)))
    simp only [insGo, List.length_append, List.length_cons]
    cases pt <;> cases hs : strLt p.1 k <;> simp [hs] at h1 ⊢ <;> split <;> simp <;> omega
theorem rapplyL_len {m : LMap} {r : Rec} {ps : List Piece} : (rapplyL m r ps).length ≤ m.length + 1 := by
  unfold rapplyL
  split
  · have := insGo_len (k := r.path) (f := ⟨(recSize ps).getD 0, r.seq, ps⟩) (m := m) (pt := decide (r.kind ≠ 2))
    split at this <;> omega
  · omega
theorem RecsAt.snoc {D : Heap} {l : List RP2} {x : RP2} (h : RecsAt D l) (hx : SliceAt D encPiece 33 x.1.pa x.1.pn x.1.pc x.2) : RecsAt D (l ++ [x]) := fun y hy => by
  rcases List.mem_append.1 hy with hy | hy
  · exact h y hy
  · simp only [List.mem_singleton] at hy; subst hy; exact hx

def runR : LMap → List RP2 → Option LMap
  | m, [] => some m
  | m, x :: r => if mayL m x.1 x.2 = 0 then runR (rapplyL m x.1 x.2) r else none
theorem runR_snoc {x : RP2} : ∀ {l : List RP2} {m m' : LMap}, runR m l = some m' → runR m (l ++ [x]) = if mayL m' x.1 x.2 = 0 then some (rapplyL m' x.1 x.2) else none
  | [], m, m', h => by simp [runR] at h; subst h; simp [runR]
  | y :: l, m, m', h => by
    simp only [runR, List.cons_append] at h ⊢
    split at h
    · rename_i h1; rw [if_pos h1]; exact runR_snoc h
    · cases h
theorem runR_step {l : List RP2} {k : Nat} {x : RP2} {m : LMap} (h : runR [] (l.take k) = some m) (hx : l[k]? = some x) (h0 : mayL m x.1 x.2 = 0) : runR [] (l.take (k + 1)) = some (rapplyL m x.1 x.2) := by
  have : l.take (k + 1) = l.take k ++ [x] := by rw [List.take_add_one, hx]; rfl
  rw [this, runR_snoc h, if_pos h0]
end Go.Sal
