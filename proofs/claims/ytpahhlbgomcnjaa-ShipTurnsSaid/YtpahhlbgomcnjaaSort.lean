/- slices.SortFunc, by the shelf's contract, as a contract over lists of blocks. -/
import Derived.Test.YtpahhlbgomcnjaaExtra
import Derived.Shelf.SlSortCmp.WholeK
import Derived.Shelf.SlSortCmp.NoneTotal
namespace Go.Sal
open Go.Shelf Go.RowKit Go.Lib Go.Sort Go.Proofs
set_option linter.unusedVariables false
variable {P : Program} {E : Env} {H : Heap}

theorem flatten_get {α : Type} [Inhabited α] {enc : α → List Value} {k : Nat} (hk : ∀ x, (enc x).length = k) : ∀ (l : List α) (t : Nat), t < l.length * k → (l.map enc).flatten[t]! = (enc l.toArray[t / k]!)[t % k]!
  | [], t, h => by simp at h
  | a :: l, t, h => by
    have k0 : 0 < k := by rcases Nat.eq_zero_or_pos k with h0 | h0; subst h0; simp at h; exact h0
    simp only [List.map_cons, List.flatten_cons]
    by_cases ht : t < k
    · rw [List.getElem!_eq_getElem?_getD, List.getElem?_append_left (by rw [hk]; exact ht), Nat.div_eq_of_lt ht, Nat.mod_eq_of_lt ht]
      simp [List.getElem!_eq_getElem?_getD]
    · have e1 : t / k = (t - k) / k + 1 := by
        rw [← Nat.sub_add_cancel (Nat.le_of_not_lt ht), Nat.add_div_right _ k0, Nat.add_sub_cancel]
      have e2 : t % k = (t - k) % k := (Nat.mod_eq_sub_mod (Nat.le_of_not_lt ht))
      have ih := flatten_get hk l (t - k) (by rw [List.length_cons, Nat.add_mul] at h; omega)
      rw [List.getElem!_eq_getElem?_getD, List.getElem?_append_right (by rw [hk]; omega), hk, e1, e2]
      rw [List.getElem!_eq_getElem?_getD] at ih
      rw [ih]
      simp [List.getElem!_eq_getElem?_getD]

theorem flatK_list {α : Type} [Inhabited α] {enc : α → List Value} {k : Nat} (hk : ∀ x, (enc x).length = k) (l : List α) : flatK enc k l.toArray = (l.map enc).flatten.toArray := by
  have hfl : (l.map enc).flatten.length = l.length * k := by
    rw [flatten_length (sz := k) (fun x hx => by obtain ⟨a, _, rfl⟩ := List.mem_map.1 hx; exact hk a), List.length_map]
  refine ext_get! (by simp [hfl]) fun t ht => ?_
  have ht' : t < l.length * k := by simpa using ht
  rw [get_flatK _ _ _ t (by simpa using ht')]
  have := flatten_get hk l t ht'
  rw [← this]
  simp [List.getElem!_eq_getElem?_getD]
theorem putCells_row (old F junk : List Value) (h : F.length = old.length) : putCells id 0 F.toArray (old ++ junk).toArray = (F ++ junk).toArray := by
  unfold putCells
  apply Array.ext
  · simp [h]
  · intro i h1 h2
    simp only [Array.getElem_mapIdx, List.getElem_toArray, List.size_toArray, Nat.zero_le, true_and, Nat.zero_add, Nat.sub_zero, id]
    by_cases hi : i < F.length
    · rw [if_pos hi, List.getElem_append_left hi, getElem!_pos _ i (by simpa using hi)]
      simp
    · rw [if_neg hi, List.getElem_append_right (by omega), List.getElem_append_right (by omega)]
      simp [h]

theorem heap_mapBlock_same {w : World} {b : Nat} {c : Array Value} {T : TypeId} {fr : Nat × Nat} (f : Array Value → Array Value) (h : w.heap[b]? = some (.cells c T fr)) : (mapBlock w b f).heap[b]? = some (.cells (f c) T fr) := by
  unfold mapBlock
  simp only [Array.getElem?_modify, if_pos, h]
  rfl
theorem heap_mapBlock_other {w : World} {b i : Nat} (f : Array Value → Array Value) (h : i ≠ b) : (mapBlock w b f).heap[i]? = w.heap[i]? := by
  unfold mapBlock
  simp only [Array.getElem?_modify]
  rw [if_neg (by omega)]

/-- The sort leaves the row in order, and lays blocks that nobody need know. -/
theorem holds_sorted {α : Type} [Inhabited α] {enc : α → List Value} {k : Nat} (hk : ∀ x, (enc x).length = k) {w : World} {b n : Nat} {T : TypeId} {l l' : List α} {junk : List Value} {os : Array Obj} (hl : l'.length = l.length)
    (hH : Go.Sal.Holds E ((b, .cells ((l.map enc).flatten ++ junk).toArray T (0, 0)) :: H) w) :
    Go.Sal.Holds E ((b, .cells ((l'.map enc).flatten ++ junk).toArray T (0, 0)) :: H) (sortWorldK enc k w b 0 n l'.toArray os) := by
  have hb := hH.mem b _ List.mem_cons_self
  have hnd := hH.nd
  have hfl : ∀ m : List α, (m.map enc).flatten.length = m.length * k := fun m => by
    rw [flatten_length (sz := k) (fun x hx => by obtain ⟨a, _, rfl⟩ := List.mem_map.1 hx; exact hk a), List.length_map]
  have hrow : (putRowK enc k (Sort.ahead w n) b 0 l'.toArray).heap[b]? = some (.cells ((l'.map enc).flatten ++ junk).toArray T (0, 0)) := by
    unfold putRowK putRow
    rw [heap_mapBlock_same _ (show (Sort.ahead w n).heap[b]? = _ from hb), flatK_list hk, putCells_row _ _ _ (by rw [hfl, hfl, hl])]
  have hlt : b < w.heap.size := (Array.getElem?_eq_some_iff.1 hb).1
  have hsz : (putRowK enc k (Sort.ahead w n) b 0 l'.toArray).heap.size = w.heap.size := by
    unfold putRowK; rw [Go.Sort.size_putRow]; rfl
  have hgrow : ∀ i, i < w.heap.size → (sortWorldK enc k w b 0 n l'.toArray os).heap[i]? = (putRowK enc k (Sort.ahead w n) b 0 l'.toArray).heap[i]? := fun i hi => by
    unfold sortWorldK grow
    show (_ ++ os)[i]? = _
    rw [Array.getElem?_append_left (by rw [hsz]; exact hi)]
  refine ⟨hH.os, hH.out, by simpa using hnd, fun i o hm => ?_⟩
  rcases List.mem_cons.1 hm with e | hm
  · injection e with e1 e2
    subst e1; subst e2
    rw [hgrow _ hlt]; exact hrow
  · have hne : i ≠ b := fun e => by
      simp only [List.map_cons, List.nodup_cons] at hnd
      exact hnd.1 (List.mem_map.2 ⟨(i, o), hm, e⟩)
    have hold := hH.mem i o (List.mem_cons_of_mem _ hm)
    have hil : i < w.heap.size := (Array.getElem?_eq_some_iff.1 hold).1
    rw [hgrow i hil]
    unfold putRowK putRow
    rw [heap_mapBlock_other _ hne]
    exact hold

theorem fn_sort {ρ : Ren} {α : Type} [Inhabited α] (L : SlLaysF0.n6 P ρ) {k : Nat} (aE : ∀ w, (isAgg (ρ.t 24)).run P w = .ok true w) (zE : ∀ w, (Go.sizeOf (ρ.t 24)).run P w = .ok k w) {enc : α → List Value} (hk : ∀ x, (enc x).length = k) (h1 : ∀ x, ∀ v ∈ enc x, v.oneCell' = true)
    {cf : α → α → Int} (hO : SWO (ltOf cf)) {g : Nat} (eg : ∀ args w, (callFunc g args).run P w = .ok (.enter g args) w) (hcmp : ∀ blk off size w, CmpLays P g #[] enc k cf blk off size w)
    {T : TypeId} {v : Value} {l : List α} {X : Heap} (ho : Own k T v (l.map enc) X) (hlen : l.length < 4611686018427387904) :
    Fn P (ρ.f 6) [v, .func (.func g) #[] #[]] E (X ++ H) (fun u H2 => u = .tuple #[] ∧ ∃ (l' : List α) (X' : Heap), l'.Perm l ∧ l'.Pairwise (fun x y => ltOf cf y x = false) ∧ Own k T v (l'.map enc) X' ∧ H2 = X' ++ H) := by
  rcases ho with ⟨rfl, h0, rfl⟩ | ⟨b, cap, junk, rfl, rfl, hxl, hcap, hlen', hmax⟩
  · obtain rfl : l = [] := by simpa using h0
    intro w hH
    exact (AnyF.slices_SortFunc_none L none 0 _ w).mono fun e w' ⟨he, hw⟩ => ⟨_, _, he, ⟨rfl, [], [], .refl _, .nil, Own.nil _ _, rfl⟩, by rw [hw]; exact hH⟩
  · intro w hH
    have hb := hH.mem b _ List.mem_cons_self
    have hlt : b < w.heap.size := (Array.getElem?_eq_some_iff.1 hb).1
    have hfl : (l.map enc).flatten.length = l.length * k := by rw [flatten_length hxl, List.length_map]
    have hHK : HoldsK enc k w b 0 l.toArray := by
      intro j hj
      rw [flatK_list hk] at hj ⊢
      have hj' : j < (l.map enc).flatten.length := by simpa using hj
      refine ⟨?_, ?_⟩
      · unfold World.cell?
        simp only [hb, Nat.zero_add]
        rw [if_neg (by simp), List.getElem?_toArray, List.getElem?_append_left hj', getElem!_pos _ j (by simpa using hj)]
        simp
      · unfold World.frozen?
        simp only [hb]
        simp
    have hs := AnyQ.slices_SortFunc L k aE zE enc hk h1 cf hO g #[] b 0 cap l.toArray w eg (hcmp _ _ _ _) hHK hlt (by simpa using hlen)
    have e1 : (l.map enc).length = l.toArray.size := by simp
    rw [e1]
    refine hs.mono fun e w' ⟨he, d', n, os, hp, hso, hw⟩ => ?_
    obtain ⟨l', rfl⟩ : ∃ l' : List α, d' = l'.toArray := ⟨d'.toList, by simp⟩
    have hl' : l'.length = l.length := by simpa using hp.1
    have hperm : l'.Perm l := by
      have := hp.2.2
      simp only [List.size_toArray] at this
      simpa [List.take_of_length_le, hl'] using this
    refine ⟨_, _, he, ⟨rfl, l', [(b, .cells ((l'.map enc).flatten ++ junk).toArray T (0, 0))], hperm, ?_, ?_, rfl⟩, ?_⟩
    · rw [List.pairwise_iff_getElem]
      intro i j hi hj hij
      have := hso i j (Nat.zero_le _) hij (by simpa [hl'] using hj)
      rw [getElem!_pos _ i (by simpa using hi), getElem!_pos _ j (by simpa using hj)] at this
      simpa using this
    · have hfl' : (l'.map enc).flatten.length = (l.map enc).flatten.length := by
        rw [hfl, flatten_length (sz := k) (fun x hx => by obtain ⟨a, _, rfl⟩ := List.mem_map.1 hx; exact hk a), List.length_map, hl']
      refine .inr ⟨b, cap, junk, by simp [hl'], rfl, fun x hx => by obtain ⟨a, _, rfl⟩ := List.mem_map.1 hx; exact hk a, ?_, by simpa [hl'] using hlen', hmax⟩
      rw [List.length_append, hfl', ← List.length_append]; exact hcap
    · rw [hw]; exact holds_sorted hk hl' hH
end Go.Sal
