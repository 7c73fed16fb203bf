/- The frame of a law's statement: the world's blocks as a list, what the readings of plain data say, and that a function that writes no old block leaves its arguments' readings alone. -/
import Derived.Test.YtpahhlbgomcnjaaExtra
import Derived.WalkKit
import Derived.ProofKit
import Derived.OpenShut
import Derived.ReadAgain
namespace Go.Sal
open Go.ChangeShapes Go.WideShapes Go.ChangeAt Go.RowKit
set_option linter.unusedVariables false
variable {P : Program} {E : Env} {N : Nat}

/-- All that a world's memory holds. -/
def allBlocks (w : World) : Heap := w.heap.toList.zipIdx.map fun p => (p.2, p.1)
def envOf (w : World) : Env := ⟨w.os, w.output⟩

theorem mem_allBlocks {w : World} {b : Nat} {o : Obj} : (b, o) ∈ allBlocks w ↔ w.heap[b]? = some o := by
  unfold allBlocks
  constructor
  · intro h
    obtain ⟨⟨o', b'⟩, hm, he⟩ := List.mem_map.1 h
    simp only [Prod.mk.injEq] at he
    obtain ⟨rfl, rfl⟩ := he
    have := List.mem_zipIdx_iff_getElem?.1 hm
    simpa using this
  · intro h
    refine List.mem_map.2 ⟨(o, b), List.mem_zipIdx_iff_getElem?.2 (by simp only [Array.getElem?_toList]; exact h), rfl⟩

theorem holds_all (w : World) : Holds (envOf w) (allBlocks w) w := by
  refine ⟨rfl, rfl, ?_, fun b o h => mem_allBlocks.1 h⟩
  unfold allBlocks
  rw [List.map_map]
  have : ((fun p : Obj × Nat => (p.2, p.1)) : Obj × Nat → Nat × Obj) = fun p => (p.2, p.1) := rfl
  have e : (w.heap.toList.zipIdx.map ((fun x : Nat × Obj => x.1) ∘ fun p : Obj × Nat => (p.2, p.1))) = List.range' 0 w.heap.toList.length := by
    simp [Function.comp_def]
  rw [e]
  exact List.nodup_range'

/-- The old blocks are as they were. -/
def Kept (W w' : World) : Prop := w'.os = W.os ∧ w'.output = W.output ∧ ∀ i, i < W.heap.size → w'.heap[i]? = W.heap[i]?

theorem kept_of {W w' : World} {X : Heap} (h : Holds (envOf W) (X ++ allBlocks W) w') : Kept W w' := by
  refine ⟨h.os, h.out, fun i hi => ?_⟩
  have hs : W.heap[i]? = some W.heap[i] := Array.getElem?_eq_getElem hi
  rw [hs]
  exact h.mem _ _ (List.mem_append_right _ (mem_allBlocks.2 hs))

/-- A contract over all of memory gives the call. -/
theorem calls_of_fn {f : FuncId} {args : List Value} {W : World} (h : Fn P f args (envOf W) (allBlocks W) fun v H2 => v = .bool true ∧ ∃ X, H2 = X ++ allBlocks W) :
    Calls P f args.toArray W fun e w' => e = .returned (.bool true) ∧ Kept W w' :=
  (h W (holds_all W)).mono fun e w' ⟨v, H2, he, ⟨hv, X, hX⟩, hh⟩ => by
    subst hv; subst hX
    exact ⟨he, kept_of hh⟩

theorem Kept.but {W w' : World} (h : Kept W w') (may : MemPlace → Prop) : W.keptBut w' may := by
  refine ⟨h.1, h.2.1, fun i hi => ?_⟩
  have e := h.2.2 i hi
  rw [e]
  cases hw : W.heap[i]? with
  | none => trivial
  | some o => cases o <;> simp

theorem Kept.same {W w' : World} (h : Kept W w') {p : MemPlace} (hp : p.block < W.heap.size) : W.sameAt w' p := by
  cases p with
  | cell b off =>
    show w'.cell? _ = W.cell? _
    unfold World.cell?
    rw [h.2.2 b hp]
  | map b => exact h.2.2 b hp

theorem Kept.frozen {W w' : World} (h : Kept W w') {b off : Nat} (hb : b < W.heap.size) : w'.frozen? ⟨b, off, none⟩ = W.frozen? ⟨b, off, none⟩ := by
  unfold World.frozen?
  rw [h.2.2 b hb]

section post
variable {H : Type} {enc : TypeId × Value → H}

theorem trodAll_carry {w w' : World} {base : Nat} {spare : Nat → Bool} {held : Bool} : ∀ {ts : List TypeId} {vs : List Value} {ds : List (DataW H)} {ps : List MemPlace},
    DataW.TrodAll enc P w base spare held ts vs ds ps → (∀ p ∈ ps, w.sameAt w' p) → DataW.TrodAll enc P w' base spare held ts vs ds ps
  | [], [], [], _, h, _ => h
  | _ :: _, _ :: _, _ :: _, _, ⟨p, q, ⟨n, h1⟩, h2, e⟩, hs =>
    ⟨p, q, ⟨n, DataW.trod_carry n _ _ _ h1 (fun x hx => hs x (by rw [e]; exact List.mem_append_left _ hx))⟩, trodAll_carry h2 (fun x hx => hs x (by rw [e]; exact List.mem_append_right _ hx)), e⟩

theorem post_true {f : Func} {s : ChangeSpec} {apart fresh handsOn again : Bool} {W W' : World} {args : Array Value} {ds gs : List (DataW H)} {before : List MemPlace} {tb : TypeId}
    (hl : laidOutB P = true) (hm : mapsRowed P = true) (hz : ((List.range P.types.size).all fun t => match P.underlying t with | some (.slice e) => decide (0 < P.cellsOf e) | _ => true) = true)
    (hts : f.params.toList.all (fun t => decide (t < P.types.size)) = true)
    (hW : DataW.Whole enc P f.params.toList s.vars apart W args.toList ds gs before) (hsv : s.vars = []) (hr : f.resultTypes = #[tb]) (hb : P.underlying tb = some .bool)
    (hfn : s.fn H (ds ++ gs) = { results := [.lit (.bool true)], args := ds }) (hk : Kept W W') : s.post enc P f apart fresh handsOn again W args (.bool true) W' := by
  have hlt := hW.lt
  have hW2 := hW
  obtain ⟨p, q, hA, hV, hpq, hzf, hnd⟩ := hW
  rw [hsv] at hV
  obtain ⟨hg, hq⟩ := trodVars_none hV
  subst hg; subst hq
  rw [List.append_nil] at hpq
  subst hpq
  have hargs : ∀ sp : Nat → Bool, (∀ x ∈ before, sp x.block = true) → DataW.TrodAll enc P W' 0 sp true f.params.toList args.toList (s.fn H (ds ++ [])).args before := fun sp hsp => by
    rw [hfn]
    exact trodAll_carry (DataW.TrodAll.respare (kids_rows hl hm) (slices_full_of P hz) (fun t ht => by simpa using List.all_eq_true.1 hts t ht) hA hsp) (fun x hx => hk.same (hlt x hx))
  have hres : ∀ (b : Nat) (sp : Nat → Bool) (hd : Bool), DataW.TrodAll enc P W' b sp hd f.resultTypes.toList ((Value.bool true).resultList f.resultTypes.size) (s.fn H (ds ++ [])).results [] := fun b sp hd => by
    rw [hfn, hr]
    exact trodAll_cons_mk (shut_bool hb _) trodAll_mk0
  have hvars : ∀ sp : Nat → Bool, DataW.TrodVars enc P W' sp s.vars (s.fn H (ds ++ [])).vars [] := fun sp => by
    rw [hfn, hsv]; exact rfl
  have hold : ∀ x ∈ before, (fun b => decide (b < W.heap.size)) x.block = true := fun x hx => by simpa using hlt x hx
  refine ⟨ds, [], before, [], before, [], hW2, hres _ _ _, hargs _ hold, hvars _, World.keptBut_mono (fun x hx => ⟨hx, Or.inr (Or.inl hx)⟩) (hk.but (· ∈ before)), fun _ => ?_⟩
  refine ⟨fun j t r hj hv => ?_, _, _, ([] ++ before) ++ [], ⟨[] ++ before, [], trodAll_append (hargs _ (fun _ _ => rfl)) (hres _ _ _), hvars _, rfl, ?_, ?_⟩, ?_⟩
  · rw [hr] at hj hv
    cases j with
    | zero =>
      simp only [List.getElem?_toArray, List.getElem?_cons_zero, Option.some.injEq] at hj
      subst hj
      have : r = .bool true := by
        have h0 : ((Value.bool true).resultList 1)[0]? = some (.bool true) := rfl
        have hv' : ((Value.bool true).resultList 1)[0]? = some r := hv
        rw [h0] at hv'
        injection hv' with hv'
        exact hv'.symm
      subst this
      exact okWide_bool_mk hb _
    | succ j => simp at hj
  · intro b off hp
    have hp' : MemPlace.cell b off ∈ before := by simpa using hp
    rw [hk.frozen (show b < W.heap.size from hlt _ hp')]
    exact hzf b off hp'
  · intro ha
    have := hnd ha
    simpa using this
  · intro x hx _
    simpa using hx
end post

/-! ### What readings say -/
section read
variable {H : Type} {enc : TypeId × Value → H} {W : World} {base : Nat} {sp : Nat → Bool}

/-- The cells cs read as something of type t. -/
def Reads (enc : TypeId × Value → H) (P : Program) (W : World) (sp : Nat → Bool) (t : TypeId) (cs : List Value) : Prop := ∃ n x, DataW.trod enc P W 0 sp true n t cs = some x

theorem reads_of {t : TypeId} {v : Value} {d : DataW H} {ps : List MemPlace} (h : DataW.Trod enc P W 0 sp true t v d ps) : Reads enc P W sp t v.cells.toList := by
  obtain ⟨n, h⟩ := h
  exact ⟨n, _, h⟩

theorem read_int {t : TypeId} {k : IntKind} {cs : List Value} (h : Reads enc P W sp t cs) (ht : P.underlying t = some (.int k)) : ∃ v : Int, cs = [.int k v] ∧ (Lit.int k v).wf = true := by
  obtain ⟨n, x, h⟩ := h
  cases n with
  | zero => simp [DataW.trod] at h
  | succ n =>
    unfold DataW.trod at h
    rw [ht] at h
    split at h <;> first | (cases h; done) | (rename_i h1; simp at h1; done) | skip
    rename_i k' v h1
    simp only [Option.some.injEq, TypeDesc.int.injEq] at h1
    subst h1
    split at h
    · rename_i hk; exact ⟨v, by rw [hk.1], hk.2⟩
    · cases h

theorem read_bool {t : TypeId} {cs : List Value} (h : Reads enc P W sp t cs) (ht : P.underlying t = some .bool) : ∃ b : Bool, cs = [.bool b] := by
  obtain ⟨n, x, h⟩ := h
  cases n with
  | zero => simp [DataW.trod] at h
  | succ n =>
    unfold DataW.trod at h
    rw [ht] at h
    split at h <;> first | (cases h; done) | (rename_i h1; simp at h1; done) | skip
    exact ⟨_, rfl⟩

theorem read_string {t : TypeId} {cs : List Value} (h : Reads enc P W sp t cs) (ht : P.underlying t = some .string) : ∃ s : ByteArray, cs = [.string s] ∧ s.size ≤ maxLen := by
  obtain ⟨n, x, h⟩ := h
  cases n with
  | zero => simp [DataW.trod] at h
  | succ n =>
    unfold DataW.trod at h
    rw [ht] at h
    split at h <;> first | (cases h; done) | (rename_i h1; simp at h1; done) | skip
    split at h
    · exact ⟨_, rfl, by assumption⟩
    · cases h

theorem mapM_some_all {α β : Type} {f : α → Option β} : ∀ {l : List α} {r : List β}, l.mapM f = some r → ∀ a ∈ l, ∃ b, f a = some b
  | [], _, _, a, ha => by cases ha
  | c :: l, r, h, a, ha => by
    rw [List.mapM_cons] at h
    simp only [Option.bind_eq_bind, Option.bind_eq_some_iff] at h
    obtain ⟨b, hb, r', hr, _⟩ := h
    rcases List.mem_cons.1 ha with e | ha
    · subst e; exact ⟨b, hb⟩
    · exact mapM_some_all hr a ha

theorem read_struct {t : TypeId} {fs : Array Field} {cs : List Value} (h : Reads enc P W sp t cs) (ht : P.underlying t = some (.struct fs)) :
    cs.length = P.cellsOf t ∧ ∀ f ∈ fs.toList, Reads enc P W sp f.type ((cs.drop f.offset).take (P.cellsOf f.type)) := by
  obtain ⟨n, x, h⟩ := h
  cases n with
  | zero => simp [DataW.trod] at h
  | succ n =>
    unfold DataW.trod at h
    rw [ht] at h
    split at h <;> first | (cases h; done) | (rename_i h1; simp at h1; done) | skip
    · rename_i h1
      simp only [Option.some.injEq, TypeDesc.struct.injEq] at h1
      subst h1
      split at h
      · rename_i hl
        simp only [Option.map_eq_some_iff] at h
        obtain ⟨ys, hm, _⟩ := h
        exact ⟨hl, fun f hf => let ⟨y, hy⟩ := mapM_some_all hm f hf; ⟨n, y, hy⟩⟩
      · cases h
    · exact (‹∀ fs_1 : Array Field, some (TypeDesc.struct fs) = some (TypeDesc.struct fs_1) → False› fs rfl).elim

theorem read_array {t e : TypeId} {m : Nat} {cs : List Value} (h : Reads enc P W sp t cs) (ht : P.underlying t = some (.array m e)) :
    cs.length = P.cellsOf t ∧ ∀ i, i < m → Reads enc P W sp e ((cs.drop (i * P.cellsOf e)).take (P.cellsOf e)) := by
  obtain ⟨n, x, h⟩ := h
  cases n with
  | zero => simp [DataW.trod] at h
  | succ n =>
    unfold DataW.trod at h
    rw [ht] at h
    split at h <;> first | (cases h; done) | (rename_i h1; simp at h1; done) | skip
    · rename_i h1
      simp only [Option.some.injEq, TypeDesc.array.injEq] at h1
      obtain ⟨h1, h2⟩ := h1
      subst h1; subst h2
      split at h
      · rename_i hl
        simp only [Option.map_eq_some_iff] at h
        obtain ⟨ys, hm, _⟩ := h
        exact ⟨hl, fun i hi => let ⟨y, hy⟩ := mapM_some_all hm i (List.mem_range.2 hi); ⟨n, y, hy⟩⟩
      · cases h
    · exact (‹∀ (n : Nat) (e_1 : TypeId), some (TypeDesc.array m e) = some (TypeDesc.array n e_1) → False› m e rfl).elim

theorem read_slice {t e : TypeId} {cs : List Value} (h : Reads enc P W sp t cs) (ht : P.underlying t = some (.slice e)) :
    cs = [.slice none 0 0] ∨ ∃ a len cap, cs = [.slice (some a) len cap] ∧ len ≤ cap ∧ cap ≤ maxLen ∧ ∀ i, i < len → ∃ xs, W.cells? 0 (a.add (i * P.cellsOf e)) (P.cellsOf e) = some xs ∧ Reads enc P W sp e xs := by
  obtain ⟨n, x, h⟩ := h
  cases n with
  | zero => simp [DataW.trod] at h
  | succ n =>
    unfold DataW.trod at h
    rw [ht] at h
    split at h <;> first | (cases h; done) | (rename_i h1; simp at h1; done) | skip
    · exact .inl rfl
    · rename_i h1
      simp only [Option.some.injEq, TypeDesc.slice.injEq] at h1
      subst h1
      simp only at h
      split at h
      · rename_i hc
        simp only [Option.bind_eq_some_iff] at h
        obtain ⟨ys, hm, _⟩ := h
        refine .inr ⟨_, _, _, rfl, hc.2.1, hc.2.2, fun i hi => ?_⟩
        obtain ⟨y, hy⟩ := mapM_some_all hm i (List.mem_range.2 hi)
        simp only [Option.bind_eq_some_iff] at hy
        obtain ⟨xs, hx, hy⟩ := hy
        exact ⟨xs, hx, n, y, hy⟩
      · cases h

theorem mapM_at {α β : Type} {f : α → Option β} : ∀ {l : List α} {r : List β}, l.mapM f = some r → ∀ (i : Nat) (a : α), l[i]? = some a → ∃ b, r[i]? = some b ∧ f a = some b
  | [], _, _, i, a, ha => by simp at ha
  | c :: l, r, h, i, a, ha => by
    rw [List.mapM_cons] at h
    simp only [Option.bind_eq_bind, Option.bind_eq_some_iff, Option.pure_def, Option.some.injEq] at h
    obtain ⟨b, hb, r', hr, e⟩ := h
    subst e
    cases i with
    | zero => simp at ha; subst ha; exact ⟨b, by simp, hb⟩
    | succ i => simpa using mapM_at hr i a (by simpa using ha)

theorem mapM_length' {α β : Type} {f : α → Option β} : ∀ {l : List α} {r : List β}, l.mapM f = some r → r.length = l.length
  | [], r, h => by simp at h; subst h; rfl
  | c :: l, r, h => by
    rw [List.mapM_cons] at h
    simp only [Option.bind_eq_bind, Option.bind_eq_some_iff, Option.pure_def, Option.some.injEq] at h
    obtain ⟨b, hb, r', hr, e⟩ := h
    subst e
    simp [mapM_length' hr]

theorem cells_at {w : World} {a : Addr} {n : Nat} {xs : List Value} (h : w.cells? 0 a n = some xs) : xs.length = n ∧ ∀ j v, xs[j]? = some v → w.cell? (a.add j) = some v := by
  unfold World.cells? at h
  rw [if_pos (Nat.zero_le _)] at h
  have hl : xs.length = n := by
    have := mapM_length' h
    simpa using this
  refine ⟨hl, fun j v hj => ?_⟩
  have hlt := (List.getElem?_eq_some_iff.1 hj).1
  obtain ⟨b, hb, hf⟩ := mapM_at h j j (by rw [List.getElem?_range (by omega)])
  rw [hb] at hj
  injection hj with hj
  subst hj
  exact hf
end read
end Go.Sal
