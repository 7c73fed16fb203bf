/- Rows of digests: sorted, each once; what is in one and not in another. Plain laws. -/
import Derived.Test.YtpahhlbgomcnjaaRowCells
set_option linter.unusedVariables false
set_option linter.unusedSimpArgs false
namespace Go.Sal
theorem clear_len {α : Type} {l : List α} {z : α} {n k : Nat} (h : l.length = n) (hk : k ≤ n) : (l.take k ++ List.replicate (n - k) z).length = n := by
  rw [List.length_append, List.length_take, List.length_replicate]; omega

def Sorted (l : List Dig) : Prop := l.Pairwise fun x y => digLt y x = false
theorem perm_sorted : ∀ {a b : List Dig}, a.Perm b → Sorted a → Sorted b → a = b
  | [], b, hp, _, _ => by simpa using hp.symm
  | x :: a, [], hp, _, _ => by simp at hp
  | x :: a, y :: b, hp, ha, hb => by
    have ha' := List.pairwise_cons.1 ha
    have hb' := List.pairwise_cons.1 hb
    have hxy : x = y := by
      by_cases e : x = y
      · exact e
      · have h1 : x ∈ b := by have := hp.subset List.mem_cons_self; simpa [e] using this
        have h2 : y ∈ a := by have := hp.symm.subset List.mem_cons_self; simpa [Ne.symm e] using this
        exact digLt_total (hb'.1 x h1) (ha'.1 y h2)
    subst hxy
    rw [perm_sorted (List.perm_cons x |>.1 hp) ha'.2 hb'.2]

/-- Digests by their bytes. -/
def sortD (l : List Dig) : List Dig := l.mergeSort (fun a b => !digLt b a)
theorem sortD_perm (l : List Dig) : (sortD l).Perm l := List.mergeSort_perm _ _
theorem sortD_sorted (l : List Dig) : Sorted (sortD l) := by
  have h := List.pairwise_mergeSort (le := fun a b => !digLt b a) (fun a b c h1 h2 => by
    simp only [Bool.not_eq_true'] at h1 h2 ⊢
    cases h : digLt c a
    · rfl
    · cases hab : digLt a b
      · have hb := digLt_total hab h1
        subst hb; rw [h] at h2; cases h2
      · have := digLt_trans h hab; rw [this] at h2; cases h2) (fun a b => by
    cases h : digLt b a
    · simp
    · simp only [Bool.not_true, Bool.false_or, Bool.not_eq_true']
      cases h2 : digLt a b
      · rfl
      · have := digLt_trans h h2; rw [digLt_irrefl] at this; cases this) l
  exact h.imp (fun {a b} h => by simpa using h)
theorem sortD_unique {l r : List Dig} (hp : r.Perm l) (hs : Sorted r) : r = sortD l := perm_sorted (hp.trans (sortD_perm l).symm) hs (sortD_sorted l)

/-- Of the first i, each that is not the one ahead of it. -/
def keepNew (l : List Dig) : Nat → List Dig
  | 0 => []
  | i + 1 => if i = 0 ∨ l[i]! ≠ l[i - 1]! then keepNew l i ++ [l[i]!] else keepNew l i
def dedup (l : List Dig) : List Dig := keepNew l l.length
def risingD (l : List Dig) : List Dig := dedup (sortD l)
theorem keepNew_le (l : List Dig) : ∀ i, (keepNew l i).length ≤ i
  | 0 => Nat.le_refl _
  | i + 1 => by
    have := keepNew_le l i
    unfold keepNew
    split
    · rw [List.length_append]; simp; omega
    · omega
theorem keepNew_yes {l : List Dig} {i : Nat} (h : i = 0 ∨ l[i]! ≠ l[i - 1]!) : keepNew l (i + 1) = keepNew l i ++ [l[i]!] := by rw [keepNew, if_pos h]
theorem keepNew_no {l : List Dig} {i : Nat} (h : ¬ (i = 0 ∨ l[i]! ≠ l[i - 1]!)) : keepNew l (i + 1) = keepNew l i := by rw [keepNew, if_neg h]
theorem keepNew_pos {l : List Dig} : ∀ {i}, 0 < i → 0 < (keepNew l i).length
  | i + 1, _ => by
    unfold keepNew
    split
    · simp
    · rename_i h
      have : i ≠ 0 := fun e => h (.inl e)
      exact keepNew_pos (by omega)
/-- As long as no two neighbours are alike, all are kept. -/
theorem keepNew_all {l : List Dig} : ∀ {i}, i ≤ l.length → (∀ j, 0 < j → j < i → l[j]! ≠ l[j - 1]!) → keepNew l i = l.take i
  | 0, _, _ => by simp [keepNew]
  | i + 1, hi, h => by
    have hy : i = 0 ∨ l[i]! ≠ l[i - 1]! := by
      by_cases e : i = 0
      · exact .inl e
      · exact .inr (h i (by omega) (by omega))
    rw [keepNew_yes hy, keepNew_all (by omega) (fun j h1 h2 => h j h1 (by omega)), List.take_add_one, List.getElem?_eq_getElem (by omega), getElem!_pos l i (by omega)]
    rfl
theorem bang_drop {l c : List Dig} {k i : Nat} (h : c.drop k = l.drop k) (hk : k ≤ i) : c[i]! = l[i]! := by
  have e : ∀ q : List Dig, q[i]! = (q.drop k)[i - k]! := fun q => by
    rw [List.getElem!_eq_getElem?_getD, List.getElem!_eq_getElem?_getD, List.getElem?_drop]
    congr 2
    omega
  rw [e c, e l, h]
theorem drop_set_lt {l : List Dig} {k i : Nat} {x : Dig} (h : i < k) : (l.set i x).drop k = l.drop k := by
  apply List.ext_getElem?
  intro j
  rw [List.getElem?_drop, List.getElem?_drop, List.getElem?_set_ne (by omega)]
theorem drop_more {l c : List Dig} {k m : Nat} (h : c.drop k = l.drop k) (hm : k ≤ m) : c.drop m = l.drop m := by
  obtain ⟨q, rfl⟩ : ∃ q, m = k + q := ⟨m - k, by omega⟩
  rw [← List.drop_drop, ← List.drop_drop, h]
theorem take_set_succ {l : List Dig} {k : Nat} {x : Dig} (h : k < l.length) : (l.set k x).take (k + 1) = l.take k ++ [x] := by
  rw [List.take_add_one, List.take_set_of_le (Nat.le_refl _), List.getElem?_set_self h]
  rfl
/-- Of the first i, each that is not in m. -/
def keepOut (m : List Dig) (l : List Dig) : List Dig := l.filter fun d => decide (d ∉ m)
theorem keepOut_snoc {m l : List Dig} {i : Nat} (h : i < l.length) : keepOut m (l.take (i + 1)) = if l[i]! ∈ m then keepOut m (l.take i) else keepOut m (l.take i) ++ [l[i]!] := by
  unfold keepOut
  rw [List.take_add_one, List.filter_append, List.getElem?_eq_getElem h, getElem!_pos l i h]
  by_cases hm : l[i] ∈ m
  · simp [hm]
  · simp [hm]
theorem keepOut_le {m l : List Dig} : (keepOut m l).length ≤ l.length := List.length_filter_le _ _
/-- What is missing. -/
def missingD (need have_ : List Dig) (most : Int) : List Dig := (keepOut have_ (risingD need)).take most.toNat
end Go.Sal
namespace Go.Sal
theorem bang_get {l : List UInt8} {n i : Nat} (hl : l.length = n) (hi : i < n) : l[i]? = some (l[i]!) := by
  subst hl
  rw [List.getElem?_eq_getElem hi, getElem!_pos l i hi]
theorem digLt_bang {a b : Dig} {i : Nat} (ht : a.list.take i = b.list.take i) (hi : i < 32) (hne : ((a.list[i]!).toNat : Int) ≠ ((b.list[i]!).toNat : Int)) : digLt a b = decide (((a.list[i]!).toNat : Int) < ((b.list[i]!).toNat : Int)) :=
  digLt_at ht (bang_get (Dig.list_length a) hi) (bang_get (Dig.list_length b) hi) hne
theorem dig_take_bang {a b : Dig} {i : Nat} (ht : a.list.take i = b.list.take i) (hi : i < 32) (he : ¬ ((a.list[i]!).toNat : Int) ≠ ((b.list[i]!).toNat : Int)) : a.list.take (i + 1) = b.list.take (i + 1) := by
  have h : a.list[i]! = b.list[i]! := UInt8.toNat_inj.1 (by omega)
  rw [List.take_add_one, List.take_add_one, ht, bang_get (Dig.list_length a) hi, bang_get (Dig.list_length b) hi, h]
theorem digLt_all {a b : Dig} {i : Nat} (ht : a.list.take i = b.list.take i) (hi : 32 ≤ i) : digLt a b = false := digLt_same (i := (i : Int)) (by simpa using ht) (by omega)
theorem notin_step {l : List Dig} {d : Dig} {i : Nat} (h : d ∉ l.take i) (hi : i < l.length) (hn : ¬ l[i]! = d) : d ∉ l.take (i + 1) := by
  rw [List.take_add_one, List.getElem?_eq_getElem hi, List.mem_append]
  rw [getElem!_pos l i hi] at hn
  simp only [Option.toList_some, List.mem_singleton]
  exact fun hh => hh.elim h (fun e => hn e.symm)
theorem mem_bang {l : List Dig} {i : Nat} (hi : i < l.length) : l[i]! ∈ l := by rw [getElem!_pos l i hi]; exact List.getElem_mem hi
theorem same_step {a b : List Dig} {i : Nat} (h : a.take i = b.take i) (ha : i < a.length) (hb : i < b.length) (he : a[i]! = b[i]!) : a.take (i + 1) = b.take (i + 1) := by
  rw [List.take_add_one, List.take_add_one, h, List.getElem?_eq_getElem ha, List.getElem?_eq_getElem hb]
  rw [getElem!_pos a i ha, getElem!_pos b i hb] at he
  rw [he]
theorem same_no {a b : List Dig} {i : Nat} (he : ¬ a[i]! = b[i]!) : ¬ a = b := fun h => he (by rw [h])
/-- One more is picked: the least of those that are left. -/
theorem rise_perm {o r l : List Dig} {k : Nat} (h : (o ++ r).Perm l) (hk : k < r.length) : ((o ++ [r[k]!]) ++ (r.take k ++ r.drop (k + 1))).Perm l := by
  refine .trans ?_ h
  rw [List.append_assoc]
  refine .append_left _ ?_
  have e : r = r.take k ++ (r[k]! :: r.drop (k + 1)) := by rw [getElem!_pos r k hk, List.getElem_cons_drop, List.take_append_drop]
  conv => rhs; rw [e]
  show (r[k]! :: (r.take k ++ r.drop (k + 1))).Perm _
  exact (List.perm_middle).symm
theorem rise_sorted {o r : List Dig} {k : Nat} (h : Sorted o) (hle : ∀ x ∈ o, ∀ y ∈ r, digLt y x = false) (hk : k < r.length) : Sorted (o ++ [r[k]!]) := by
  unfold Sorted
  rw [List.pairwise_append]
  refine ⟨h, by simp, fun x hx y hy => ?_⟩
  simp only [List.mem_singleton] at hy
  subst hy
  exact hle x hx _ (mem_bang hk)
theorem rest_sub {r : List Dig} {k : Nat} {y : Dig} (h : y ∈ r.take k ++ r.drop (k + 1)) : y ∈ r := (List.mem_append.1 h).elim (fun h => List.mem_of_mem_take h) (fun h => List.mem_of_mem_drop h)
theorem rise_le {o r : List Dig} {k : Nat} (hle : ∀ x ∈ o, ∀ y ∈ r, digLt y x = false) (hk : k < r.length) (hmin : ∀ j, j < r.length → digLt (r[j]!) (r[k]!) = false) : ∀ x ∈ o ++ [r[k]!], ∀ y ∈ r.take k ++ r.drop (k + 1), digLt y x = false := fun x hx y hy => by
  have hy' := rest_sub hy
  rcases List.mem_append.1 hx with hx | hx
  · exact hle x hx y hy'
  · simp only [List.mem_singleton] at hx
    subst hx
    obtain ⟨j, hj⟩ := List.getElem?_of_mem hy'
    have hlt := (List.getElem?_eq_some_iff.1 hj).1
    have := hmin j hlt
    rwa [getElem!_pos r j hlt, (List.getElem?_eq_some_iff.1 hj).2] at this
theorem min_less {r : List Dig} {i k : Nat} (h : ∀ j, j < i → digLt (r[j]!) (r[k]!) = false) (hl : digLt (r[i]!) (r[k]!) = true) : ∀ j, j < i + 1 → digLt (r[j]!) (r[i]!) = false := fun j hj => by
  by_cases e : j = i
  · subst e; exact digLt_irrefl _
  · cases h2 : digLt (r[j]!) (r[i]!)
    · rfl
    · have := digLt_trans h2 hl
      rw [h j (by omega)] at this; cases this
theorem min_same {r : List Dig} {i k : Nat} (h : ∀ j, j < i → digLt (r[j]!) (r[k]!) = false) (hl : digLt (r[i]!) (r[k]!) = false) : ∀ j, j < i + 1 → digLt (r[j]!) (r[k]!) = false := fun j hj => by
  by_cases e : j = i
  · subst e; exact hl
  · exact h j (by omega)
theorem sortD_length (l : List Dig) : (sortD l).length = l.length := (sortD_perm l).length_eq
theorem risingD_length (l : List Dig) : (risingD l).length ≤ l.length := by
  have h := keepNew_le (sortD l) (sortD l).length
  have h2 := sortD_length l
  unfold risingD dedup
  omega
theorem keepOut_prefix {m l : List Dig} (i : Nat) : keepOut m (l.take i) = (keepOut m l).take (keepOut m (l.take i)).length := by
  unfold keepOut
  conv => rhs; rw [← List.take_append_drop i l, List.filter_append]
  rw [List.take_append_drop i l, List.take_left]
theorem missing_end {need h : List Dig} {most : Int} {i : Nat} (hb : ((keepOut h ((risingD need).take i)).length : Int) ≤ max 0 most) (hi : i ≤ (risingD need).length) (hx : ¬ ((i : Int) < ((risingD need).length : Nat)) ∨ ¬ (((keepOut h ((risingD need).take i)).length : Int) < most)) : keepOut h ((risingD need).take i) = missingD need h most := by
  unfold missingD
  rcases hx with hx | hx
  · have : (risingD need).take i = risingD need := List.take_of_length_le (by omega)
    rw [this] at hb ⊢
    rw [List.take_of_length_le (by omega)]
  · rw [keepOut_prefix i]
    congr 1
    omega
theorem SliceAt.takeMin {α : Type} {D : Heap} {enc : α → List Value} {sz : Nat} {a : Option Addr} {n c : Nat} {l : List α} (K : Nat) (h : SliceAt D enc sz a n c l) : SliceAt D enc sz a (min n K) c (l.take K) := by
  have h2 := h.take (k := min n K) (c' := c) (Nat.min_le_left ..) (Nat.le_trans (Nat.min_le_left ..) h.cap)
  have e : l.take (min n K) = l.take K := by rw [← h.len, List.take_eq_take_iff]; omega
  rwa [e] at h2
end Go.Sal
namespace Go.Sal
theorem cp_all {l : List Dig} {k : Nat} (h : ∀ j, 0 < j → j < k → l[j]! ≠ l[j - 1]!) (hk : l.length ≤ k) : l.take l.length = dedup l := by
  unfold dedup
  rw [keepNew_all (Nat.le_refl _) (fun j h1 h2 => h j h1 (by omega))]
theorem cp_start {l : List Dig} {k : Nat} (h : ∀ j, 0 < j → j < k → l[j]! ≠ l[j - 1]!) (h1 : 1 ≤ k) (hk : k < l.length) (he : l[k]! = l[k - 1]!) : l.take k = keepNew l (k + 1) := by
  rw [keepNew_no (by intro hh; rcases hh with hh | hh; omega; exact hh he), keepNew_all (by omega) h]
theorem cp_next {l : List Dig} {k : Nat} (h : ∀ j, 0 < j → j < k → l[j]! ≠ l[j - 1]!) (hne : ¬ l[k]! = l[k - 1]!) : ∀ j, 0 < j → j < k + 1 → l[j]! ≠ l[j - 1]! := fun j h1 h2 => by
  by_cases e : j = k
  · subst e; exact hne
  · exact h j h1 (by omega)
theorem cp_yes {l c : List Dig} {q k : Nat} (hc : c.length = l.length) (ht : c.take k = keepNew l q) (hd : c.drop (q - 1) = l.drop (q - 1)) (hq : q < l.length) (h1 : 1 ≤ q) (hk : k ≤ q - 1) (hne : ¬ c[q]! = c[q - 1]!) :
    (c.set k (c[q]!)).take (k + 1) = keepNew l (q + 1) ∧ (c.set k (c[q]!)).drop q = l.drop q := by
  have e1 := bang_drop hd (i := q) (by omega)
  have e2 := bang_drop hd (i := q - 1) (by omega)
  refine ⟨?_, ?_⟩
  · rw [take_set_succ (by omega), ht, keepNew_yes (.inr (by rw [← e1, ← e2]; exact hne)), e1]
  · rw [drop_set_lt (by omega), drop_more hd (by omega)]
theorem cp_no {l c : List Dig} {q k : Nat} (ht : c.take k = keepNew l q) (hd : c.drop (q - 1) = l.drop (q - 1)) (h1 : 1 ≤ q) (he : c[q]! = c[q - 1]!) : c.take k = keepNew l (q + 1) ∧ c.drop q = l.drop q := by
  have e1 := bang_drop hd (i := q) (by omega)
  have e2 := bang_drop hd (i := q - 1) (by omega)
  refine ⟨?_, drop_more hd (by omega)⟩
  rw [ht, keepNew_no (by intro hh; rcases hh with hh | hh; omega; exact hh (by rw [← e1, ← e2]; exact he))]
theorem clear_take {l : List Dig} {k n : Nat} {z : Dig} (hk : k ≤ l.length) : (l.take k ++ List.replicate n z).take k = l.take k := by
  rw [List.take_append_of_le_length (by rw [List.length_take]; omega), List.take_take, Nat.min_self]
theorem dl_start {m l : List Dig} {i : Nat} (h : keepOut m (l.take i) = l.take i) (hi : i < l.length) (hm : l[i]! ∈ m) : l.take i = keepOut m (l.take (i + 1)) := by rw [keepOut_snoc hi, if_pos hm, h]
theorem dl_yes {m l c : List Dig} {j k : Nat} (hc : c.length = l.length) (ht : c.take k = keepOut m (l.take j)) (hd : c.drop j = l.drop j) (hj : j < l.length) (hk : k ≤ j) (hn : ¬ c[j]! ∈ m) :
    (c.set k (c[j]!)).take (k + 1) = keepOut m (l.take (j + 1)) ∧ (c.set k (c[j]!)).drop (j + 1) = l.drop (j + 1) := by
  have e1 := bang_drop hd (i := j) (by omega)
  refine ⟨?_, ?_⟩
  · rw [take_set_succ (by omega), ht, keepOut_snoc hj, if_neg (by rw [← e1]; exact hn), e1]
  · rw [drop_set_lt (by omega), drop_more hd (by omega)]
theorem dl_no {m l c : List Dig} {j k : Nat} (ht : c.take k = keepOut m (l.take j)) (hd : c.drop j = l.drop j) (hj : j < l.length) (hm : c[j]! ∈ m) : c.take k = keepOut m (l.take (j + 1)) ∧ c.drop (j + 1) = l.drop (j + 1) := by
  have e1 := bang_drop hd (i := j) (by omega)
  exact ⟨by rw [ht, keepOut_snoc hj, if_pos (by rw [← e1]; exact hm)], drop_more hd (by omega)⟩
theorem dl_end {m l : List Dig} {j : Nat} (h : l.length ≤ j) : keepOut m (l.take j) = keepOut m l := by rw [List.take_of_length_le h]
/-- Where the first of them is. -/
def idxP (l m : List Dig) (r : Int) : Prop := (r = -1 ∧ keepOut m l = l) ∨ ∃ i : Nat, r = i ∧ i < l.length ∧ l[i]! ∈ m ∧ keepOut m (l.take i) = l.take i
theorem idx_next {m l : List Dig} {i : Nat} (h : keepOut m (l.take i) = l.take i) (hi : i < l.length) (hn : ¬ l[i]! ∈ m) : keepOut m (l.take (i + 1)) = l.take (i + 1) := by
  rw [keepOut_snoc hi, if_neg hn, h, List.take_add_one, List.getElem?_eq_getElem hi, getElem!_pos l i hi]
  rfl
/-- Keys as they come, each once. -/
def addK (l : List Dig) (a : Dig) : List Dig := if a ∈ l then l else l ++ [a]
def keysOf (l : List Dig) : Nat → List Dig
  | 0 => []
  | i + 1 => addK (keysOf l i) (l[i]!)
theorem keysOf_mem {l : List Dig} {d : Dig} : ∀ i, i ≤ l.length → (d ∈ keysOf l i ↔ d ∈ l.take i)
  | 0, _ => by simp [keysOf]
  | i + 1, h => by
    have ih := keysOf_mem (l := l) (d := d) i (by omega)
    rw [keysOf, List.take_add_one, List.getElem?_eq_getElem (by omega), List.mem_append, ← ih, getElem!_pos l i (by omega)]
    unfold addK
    split
    · rename_i hm
      constructor
      · exact .inl
      · rintro (h1 | h1)
        · exact h1
        · simp at h1; rw [h1]; exact hm
    · simp
theorem keepOut_congr {m m' l : List Dig} (h : ∀ d, d ∈ m ↔ d ∈ m') : keepOut m l = keepOut m' l := by
  unfold keepOut
  congr 1
  funext d
  simp only [h d]
theorem keepOut_keys {l r : List Dig} : keepOut (keysOf l l.length) r = keepOut l r := keepOut_congr fun d => by rw [keysOf_mem _ (Nat.le_refl _), List.take_length]
theorem rows_slice {l : List Dig} {jk : List Value} {b n c : Nat} {T : TypeId} {fr : Nat × Nat} {H : Heap} (h : (b, Obj.cells (rows encDig l jk).toArray T fr) ∈ H) (hn : l.length = n) (hc : n ≤ c) : SliceAt H encDig 32 (some ⟨b, 0, none⟩) n c l := by
  refine ⟨hn, hc, fun _ => ⟨b, 0, _, T, fr, rfl, h, fun i x hi => ?_⟩⟩
  rw [List.getElem?_map] at hi
  cases hu : l[i]? with
  | none => rw [hu] at hi; cases hi
  | some d =>
    rw [hu] at hi
    simp only [Option.map_some, Option.some.injEq] at hi
    subst hi
    have hlt := (List.getElem?_eq_some_iff.1 hu).1
    refine ⟨rfl, ?_⟩
    have := rows_at (enc := encDig) (sz := 32) (l := l) (junk := jk) (off := 0 + i * 32) (i := i) (fun _ => rfl) (by omega) hlt
    rw [getElem!_pos l i hlt, (List.getElem?_eq_some_iff.1 hu).2] at this
    exact this
end Go.Sal
namespace Go.Sal
set_option linter.unusedVariables false
theorem fn_ownRow {P : Program} {E : Env} {f : FuncId} {rest : List Value} {v : Value} {l r : List Dig} {X H : Heap} {T : TypeId} (ho : Own 32 T v (l.map encDig) X)
    (h0 : l = [] → Fn P f (.slice none 0 0 :: rest) E H (fun v2 H2 => ∃ X', H2 = X' ++ H ∧ Own 32 T v2 (r.map encDig) X'))
    (h1 : ∀ (b cap : Nat) (jk : List Value), l.length ≤ cap → Fn P f (.slice (some ⟨b, 0, none⟩) l.length cap :: rest) E ((b, .cells (rows encDig l jk).toArray T (0, 0)) :: H)
      (fun v H2 => ∃ (k : Nat) (l2 : List Dig) (X : Heap), v = .slice (some ⟨b, 0, none⟩) k cap ∧ H2 = X ++ ((b, .cells (rows encDig l2 jk).toArray T (0, 0)) :: H) ∧ l2.length = l.length ∧ k ≤ l.length ∧ l2.take k = r)) :
    Fn P f (v :: rest) E (X ++ H) (fun v2 H2 => ∃ X', H2 = X' ++ H ∧ Own 32 T v2 (r.map encDig) X') := by
  rcases ho.open with ⟨rfl, hl, rfl⟩ | ⟨b, cap, jk, rfl, rfl, hc, hle, hm⟩
  · exact h0 hl
  · intro w hH
    refine (h1 b cap jk hle w hH).mono ?_
    rintro e w' ⟨v, H2, he, ⟨k, l2, X, rfl, rfl, hl2, hk, ht⟩, hh⟩
    refine ⟨_, [(b, .cells (rows encDig l2 jk).toArray T (0, 0))] ++ H, he, ⟨_, rfl, ?_⟩, hh.hs (.dropS .all)⟩
    have hlen : (rows encDig l2 jk).length = cap * 32 := by
      rw [← hc]
      unfold rows
      rw [List.length_append, List.length_append, rows_flat_len (sz := 32) (fun _ => rfl), rows_flat_len (sz := 32) (fun _ => rfl), hl2]
    rw [← ht]
    exact Own.close (sz := 32) (fun _ => rfl) hlen (by omega) hm (by omega)
theorem dedup_le (l : List Dig) : (dedup l).length ≤ l.length := keepNew_le l l.length
theorem missing_take {l m : List Dig} {most : Int} {n : Nat} (hn : (n : Int) = max 0 (min most ((keepOut m (risingD l)).length : Nat))) : (keepOut m (risingD l)).take n = missingD l m most := by
  unfold missingD
  rw [List.take_eq_take_iff]
  omega
theorem perm_sortD {l r : List Dig} (hp : r.Perm l) (hs : r.Pairwise (fun x y => digLt y x = false)) : r = sortD l := sortD_unique hp hs
end Go.Sal
namespace Go.Sal
theorem missing_len (l m : List Dig) (most : Int) : (missingD l m most).length = min most.toNat (keepOut m (risingD l)).length := by
  unfold missingD
  rw [List.length_take]
theorem few_len (l : List Dig) (k : Nat) : (l.take k).length ≤ k ∧ (l.take k).length ≤ l.length := by
  rw [List.length_take]; omega
theorem turn_keep {l hv : List Dig} {n : Nat} : (keepOut (hv ++ missingD l hv (n : Int)) (risingD l)).length ≤ (keepOut hv (risingD l)).length - n := by
  have e : keepOut (hv ++ missingD l hv (n : Int)) (risingD l) = keepOut (missingD l hv (n : Int)) (keepOut hv (risingD l)) := by
    unfold keepOut
    rw [List.filter_filter]
    congr 1
    funext d
    simp only [List.mem_append, not_or]
    by_cases h1 : d ∈ hv <;> by_cases h2 : d ∈ missingD l hv n <;> simp [h1, h2]
  rw [e]
  have hm : missingD l hv (n : Int) = (keepOut hv (risingD l)).take n := by unfold missingD; rfl
  rw [hm]
  generalize keepOut hv (risingD l) = K
  have hs : keepOut (K.take n) K = keepOut (K.take n) (K.drop n) := by
    conv => lhs; arg 2; rw [← List.take_append_drop n K]
    unfold keepOut
    rw [List.filter_append, List.filter_eq_nil_iff.2 (by intro a ha; simp [ha]), List.nil_append]
  rw [hs]
  have := keepOut_le (m := K.take n) (l := K.drop n)
  rw [List.length_drop] at this
  exact this
theorem turn_step {K K' M n i : Nat} (h : K ≤ M - i * n) (h' : K' ≤ K - n) : K' ≤ M - (i + 1) * n := by
  rw [Nat.succ_mul]; omega
theorem turn_lt {M n i : Nat} (h : (i : Int) < (M : Int) / (n : Int) + 1) : M / n + 1 - (i + 1) < M / n + 1 - i := by
  have e : ((M / n : Nat) : Int) = (M : Int) / (n : Int) := Int.natCast_ediv M n
  omega
theorem turn_le {M n i : Nat} (h : (i : Int) < (M : Int) / (n : Int) + 1) : i + 1 ≤ M / n + 1 := by
  have e : ((M / n : Nat) : Int) = (M : Int) / (n : Int) := Int.natCast_ediv M n
  omega
theorem turn_end {K M n i : Nat} (h : K ≤ M - i * n) (hn : 0 < n) (hi : ¬ ((i : Int) < (M : Int) / (n : Int) + 1)) : K = 0 := by
  have e : ((M / n : Nat) : Int) = (M : Int) / (n : Int) := Int.natCast_ediv M n
  have h1 : M / n + 1 ≤ i := by omega
  have h2 : M < n * (M / n + 1) := Nat.lt_mul_div_succ M hn
  have h3 : n * (M / n + 1) ≤ n * i := Nat.mul_le_mul_left n h1
  have h4 : n * i = i * n := Nat.mul_comm ..
  omega
end Go.Sal
