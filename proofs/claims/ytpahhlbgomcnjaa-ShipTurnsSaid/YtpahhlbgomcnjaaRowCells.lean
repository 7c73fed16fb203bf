/- Rows that are written in place: a block whose cells are the pieces of a list, and junk. -/
import Derived.Test.YtpahhlbgomcnjaaDraw
import Derived.Test.YtpahhlbgomcnjaaDSet
import Derived.Test.YtpahhlbgomcnjaaDigOrd
namespace Go.Sal
set_option linter.unusedVariables false
set_option linter.unusedSimpArgs false
variable {P : Program} {E : Env} {N : Nat} {L L' : List (Nat × Value)} {H H' R : Heap} {K : Act → World → Prop} {Q : Exit → Act → World → Prop}
variable {ops : Array Oper} {o : Oper} {d : Nat} {x y : Operand}
variable {α : Type} {enc : α → List Value} {sz : Nat}

def rows (enc : α → List Value) (l : List α) (junk : List Value) : List Value := (l.map enc).flatten ++ junk

theorem rows_flat_len (hk : ∀ a, (enc a).length = sz) (l : List α) : (l.map enc).flatten.length = l.length * sz := by
  rw [flatten_length (sz := sz) (fun x hx => by obtain ⟨a, _, rfl⟩ := List.mem_map.1 hx; exact hk a), List.length_map]
theorem rows_at [Inhabited α] {l : List α} {junk : List Value} {off i : Nat} (hk : ∀ a, (enc a).length = sz) (ho : off = i * sz) (h : i < l.length) : At (rows enc l junk).toArray off (enc (l[i]!)) := by
  subst ho
  intro j v hj
  have hi : (l.map enc)[i]? = some (enc (l[i]!)) := by rw [List.getElem?_map, List.getElem?_eq_getElem h, getElem!_pos l i h]; rfl
  have hf := getElem?_flatten (sz := sz) (fun x hx => by obtain ⟨a, _, rfl⟩ := List.mem_map.1 hx; exact hk a) i _ hi j v hj
  have hlt := (List.getElem?_eq_some_iff.1 hf).1
  unfold rows
  rw [List.getElem?_toArray, List.getElem?_append_left hlt]
  exact hf
theorem rows_cut {l : List α} {junk : List Value} {i : Nat} [Inhabited α] (h : i < l.length) : rows enc l junk = ((l.take i).map enc).flatten ++ enc (l[i]!) ++ (((l.drop (i + 1)).map enc).flatten ++ junk) := by
  have e : l = l.take i ++ (l[i]! :: l.drop (i + 1)) := by
    rw [getElem!_pos l i h, List.getElem_cons_drop, List.take_append_drop]
  unfold rows
  conv => lhs; rw [e]
  simp
/-- s[i] = v in a row. -/
theorem o_storeRow [Inhabited α] {l : List α} {junk : List Value} {a0 : α} {T b off i : Nat} {U : TypeId} (ho : o.op = .store T x y) (hd : o.dst = none) (hx : evL L x = some (.pointer (some ⟨b, off, none⟩))) (hy : evL L y = some (.agg (enc a0).toArray)) (h1 : ∀ v ∈ enc a0, v.oneCell' = true)
    (hk : ∀ a, (enc a).length = sz) (hs : ∀ w, (sizeOf T).run P w = .ok sz w) (hp : PullC (b, .cells (rows enc l junk).toArray U (0, 0)) H R) (hoff : off = i * sz) (hi : i < l.length) (t : Then E N L ((b, .cells (rows enc (l.set i a0) junk).toArray U (0, 0)) :: R) K) :
    Then E N L H (fun a w => o.wp P a w K Q) := by
  refine o_storeP (pre := ((l.take i).map enc).flatten) (old := enc (l[i]!)) (post := ((l.drop (i + 1)).map enc).flatten ++ junk) (ys := enc a0) ho hd hx hy h1 (by rw [hk]; exact hs) hp (rows_cut hi) ?_ ?_ ?_
  · rw [rows_flat_len hk, List.length_take, hoff, Nat.min_eq_left (Nat.le_of_lt hi)]
  · rw [hk, hk]
  · have e : ((l.take i).map enc).flatten ++ enc a0 ++ (((l.drop (i + 1)).map enc).flatten ++ junk) = rows enc (l.set i a0) junk := by
      unfold rows
      rw [List.set_eq_take_append_cons_drop, if_pos hi]
      simp
    rw [e]; exact t

theorem Own.open {T : TypeId} {v : Value} {l : List α} {X : Heap} (h : Own sz T v (l.map enc) X) :
    (v = .slice none 0 0 ∧ l = [] ∧ X = []) ∨ ∃ b cap junk, v = .slice (some ⟨b, 0, none⟩) l.length cap ∧ X = [(b, .cells (rows enc l junk).toArray T (0, 0))] ∧ (rows enc l junk).length = cap * sz ∧ l.length ≤ cap ∧ cap ≤ 9223372036854775807 := by
  rcases h with ⟨hv, hl, hX⟩ | ⟨b, cap, junk, hv, hX, _, hc, hle, hm⟩
  · exact .inl ⟨hv, by simpa using hl, hX⟩
  · exact .inr ⟨b, cap, junk, by simpa using hv, hX, hc, by simpa using hle, hm⟩
/-- The first k of a row, as a slice of one's own. -/
theorem Own.close {T : TypeId} {b cap k : Nat} {l : List α} {junk : List Value} (hk : ∀ a, (enc a).length = sz) (hc : (rows enc l junk).length = cap * sz) (hl : l.length ≤ cap) (hm : cap ≤ 9223372036854775807) (hkl : k ≤ l.length) :
    Own sz T (.slice (some ⟨b, 0, none⟩) k cap) ((l.take k).map enc) [(b, .cells (rows enc l junk).toArray T (0, 0))] := by
  have e : rows enc l junk = ((l.take k).map enc).flatten ++ (((l.drop k).map enc).flatten ++ junk) := by
    unfold rows
    rw [← List.append_assoc, ← List.flatten_append, ← List.map_append, List.take_append_drop]
  refine .inr ⟨b, cap, ((l.drop k).map enc).flatten ++ junk, ?_, ?_, fun x hx => by obtain ⟨a, _, rfl⟩ := List.mem_map.1 hx; exact hk a, ?_, ?_, hm⟩
  · rw [List.length_map, List.length_take, Nat.min_eq_left hkl]
  · rw [e]
  · rw [← e]; exact hc
  · rw [List.length_map, List.length_take]; omega

theorem zerosFlat {z : α} (zs : Array Value) (hz : zs = (enc z).toArray) (n : Nat) : (Builtin.zeroCells zs n).toList = ((List.replicate n z).map enc).flatten := by
  rw [zeroCells_list, hz]
  simp
/-- clear(s[k:]), s a row. -/
theorem o_clearRow {l : List α} {junk : List Value} {T e b cap k n : Nat} {U : TypeId} {zv : Value} {z : α} (ho : o.op = .call { callee := .builtin .clear, args := #[x], argTypes := #[T] }) (hd : o.dst = none)
    (hx : evL L x = some (.slice (slAddr (some ⟨b, 0, none⟩) cap k sz) (n - k) (cap - k))) (hu : P.underlying T = some (.slice e)) (hz : ∀ w, (zeroValue e).run P w = .ok zv w) (hzc : zv.cells = (enc z).toArray) (h1 : ∀ v ∈ enc z, v.oneCell' = true)
    (hk : ∀ a, (enc a).length = sz) (hp : PullC (b, .cells (rows enc l junk).toArray U (0, 0)) H R) (hn : n = l.length) (hle : n ≤ cap) (hkn : k ≤ n)
    (t : Then E N L ((b, .cells (rows enc (l.take k ++ List.replicate (n - k) z) junk).toArray U (0, 0)) :: R) K) : Then E N L H (fun a w => o.wp P a w K Q) := fun a w hL hH => by
  subst hn
  have hH1 : Holds E ((b, .cells (rows enc l junk).toArray U (0, 0)) :: R) w := hH.perm hp.perm
  have hexec : (execOp a.eval o).run P w = ((Builtin.clear_ #[T] o.type #[a.eval x]).run P w).andThen fun v w' => .ok (.value v) w' := by
    simp only [execOp, ho, resolve, invoke, builtin, Sem.run_bind, Sem.run_pure, Result.andThen_ok, List.map_toArray, List.map_cons, List.map_nil]
  show o.upon P a K Q ((execOp a.eval o).run P w)
  rw [hexec, hL.ev hx]
  by_cases h0 : l.length - k = 0
  · have hr : (Builtin.clear_ #[T] o.type #[.slice (slAddr (some ⟨b, 0, none⟩) cap k sz) (l.length - k) (cap - k)]).run P w = .ok (.tuple #[]) w := by
      rw [h0]
      unfold slAddr
      split <;> simp [Builtin.clear_, run_underlying hu]
    rw [hr]
    simp only [Result.andThen_ok, Oper.upon_value]
    rw [hd]
    refine t _ _ hL ?_
    rw [h0, List.replicate_zero, List.append_nil, List.take_of_length_le (by omega)]
    exact hH1
  · have hlt : k < cap := by omega
    have hcut : rows enc l junk = ((l.take k).map enc).flatten ++ ((l.drop k).map enc).flatten ++ junk := by
      unfold rows
      rw [← List.flatten_append, ← List.map_append, List.take_append_drop]
    have hpre : ((l.take k).map enc).flatten.length = k * sz := by rw [rows_flat_len hk, List.length_take, Nat.min_eq_left (by omega)]
    have hold : ((l.drop k).map enc).flatten.length = (l.length - k) * sz := by rw [rows_flat_len hk, List.length_drop]
    have hzl : (((List.replicate (l.length - k) z).map enc).flatten).length = (l.length - k) * sz := by rw [rows_flat_len hk, List.length_replicate]
    have h1' : ∀ v ∈ ((List.replicate (l.length - k) z).map enc).flatten, v.oneCell' = true := fun v hv => by
      obtain ⟨y, hy, hvy⟩ := List.mem_flatten.1 hv
      obtain ⟨c, hc, rfl⟩ := List.mem_map.1 hy
      rw [List.eq_of_mem_replicate hc] at hvy
      exact h1 v hvy
    have hst := run_storeCells_at P b (k * sz) U ((List.replicate (l.length - k) z).map enc).flatten 0 (rows enc l junk).toArray w (hH1.mem _ _ List.mem_cons_self) (by
      rw [hzl, List.size_toArray, hcut, List.length_append, List.length_append, hpre, hold]; omega) h1'
    simp only [Nat.add_zero] at hst
    have hr : (Builtin.clear_ #[T] o.type #[.slice (slAddr (some ⟨b, 0, none⟩) cap k sz) (l.length - k) (cap - k)]).run P w = .ok (.tuple #[]) (w.setRow b (List.take (k * sz) (rows enc l junk).toArray.toList ++ ((List.replicate (l.length - k) z).map enc).flatten ++ List.drop (k * sz + ((List.replicate (l.length - k) z).map enc).flatten.length) (rows enc l junk).toArray.toList).toArray) := by
      rw [slAddr_some hlt, Nat.zero_add]
      obtain ⟨m, hm⟩ : ∃ m, l.length - k = m + 1 := ⟨l.length - k - 1, by omega⟩
      have hzf := zerosFlat (enc := enc) zv.cells hzc (l.length - k)
      rw [← hzf] at hst ⊢
      rw [hm] at hst ⊢
      simp only [Builtin.clear_, List.getElem?_toArray, List.getElem?_cons_zero, run_underlying hu, Sem.run_bind, Result.andThen_ok, hz w, hst, Sem.run_pure]
    have hcells : List.take (k * sz) (rows enc l junk) ++ ((List.replicate (l.length - k) z).map enc).flatten ++ List.drop (k * sz + ((List.replicate (l.length - k) z).map enc).flatten.length) (rows enc l junk) = rows enc (l.take k ++ List.replicate (l.length - k) z) junk := by
      rw [hzl, hcut, List.append_assoc ((l.take k).map enc).flatten, ← hpre, List.take_left, ← hold, ← List.drop_drop, List.drop_left, List.drop_left]
      unfold rows
      simp
    rw [hr]
    simp only [Result.andThen_ok, Oper.upon_value]
    rw [hd]
    have hH2 := Holds.setRow (H := R) (cs := (rows enc l junk).toArray) hH1 (List.take (k * sz) (rows enc l junk) ++ ((List.replicate (l.length - k) z).map enc).flatten ++ List.drop (k * sz + ((List.replicate (l.length - k) z).map enc).flatten.length) (rows enc l junk)).toArray
    have hH3 : Holds E ((b, .cells (rows enc (l.take k ++ List.replicate (l.length - k) z) junk).toArray U (0, 0)) :: R) (w.setRow b (List.take (k * sz) (rows enc l junk) ++ ((List.replicate (l.length - k) z).map enc).flatten ++ List.drop (k * sz + ((List.replicate (l.length - k) z).map enc).flatten.length) (rows enc l junk)).toArray) := by
      rw [← hcells]; exact hH2
    exact t _ _ hL hH3

/-- m[k], every value of the map being true. -/
theorem r_lookupSet {β : Type} [DecidableEq β] {T kt et b : Nat} {es : Array MapEntry} {c : Nat} {kenc : β → Value} {l : List β} {a0 : β} (ho : o.op = .lookup T x y false) (hx : evL L x = some (.map (some b))) (hy : evL L y = some (kenc a0))
    (hu : P.underlying T = some (.map kt et)) (hw : (match P.underlying kt with | some (.array _ _) | some (.struct _) => true | _ => false) = true) (hz : ∀ w, (zeroValue et).run P w = .ok (.bool false) w)
    (heq : ∀ (a b : β) (w : World), (Op.equal kt (kenc a) (kenc b)).run P w = .ok (decide (a = b)) w) (hck : ∀ (w : World) (e : Bool), (Instr.checkKey e 10000 kt (kenc a0)).run P w = .ok () w)
    (hm : (b, .map es c) ∈ H) (hs : IsSet es c kenc (.bool true) l) : Run P E N L H o (.bool (decide (a0 ∈ l))) := fun a w hL hH => by
  have hg : (getObj b).run P w = .ok (.map es c) w := by simp only [getObj, Sem.run, hH.mem _ _ hm]
  rcases run_findKey_set (P := P) hw heq hs a0 w with ⟨j, hj, hr⟩ | ⟨hn, hr⟩
  · have : decide (a0 ∈ l) = true := by simpa using List.mem_of_getElem? hj
    rw [this]
    simp [execOp, ho, hL.ev hx, hL.ev hy, Instr.lookup, underlying, hu, hg, hck, hr]
  · have : decide (a0 ∈ l) = false := by simpa using hn
    rw [this]
    simp [execOp, ho, hL.ev hx, hL.ev hy, Instr.lookup, underlying, hu, hg, hck, hr, hz w]
end Go.Sal
