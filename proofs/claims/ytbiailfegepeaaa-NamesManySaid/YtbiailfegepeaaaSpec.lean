/- What records and names come to, as plain functions. -/
import Derived.Test.YtbiailfegepeaaaExtra
namespace Go.Sal

def okByte (u : UInt8) : Bool := decide (33 ≤ u.toNat) && decide (u.toNat ≤ 126)
def isPath (s : ByteArray) : Bool := decide (1 ≤ s.size) && decide (s.size ≤ 255) && s.data.toList.all okByte

def sizeGo : Int → List Piece → Option Int
  | acc, [] => some acc
  | acc, p :: r => if p.n < 1 ∨ p.n > 4096 then none else if acc + p.n > 1048576 then none else sizeGo (acc + p.n) r
def recSize (l : List Piece) : Option Int := if l.length > 4096 then none else sizeGo 0 l

/-- The two results of Size. -/
def sizeV (l : List Piece) : Value := match recSize l with
  | some n => .tuple #[.int .i64 n, .int .i64 0]
  | none => .tuple #[.int .i64 0, .int .i64 130]

def fits (r : Rec) (ps : List Piece) : Bool :=
  if r.kind = 1 then (decide (r.site = 0) || decide (r.site = 1)) && decide (r.path = ⟨#[]⟩) && decide (ps.length = 0)
  else if r.kind = 3 then decide (ps.length = 0) && decide (r.site = 0) && isPath r.path
  else if r.kind = 2 then decide (r.site = 0) && isPath r.path && (recSize ps).isSome
  else false

def recOk (r : Rec) (ps : List Piece) : Bool := decide (1 ≤ r.seq) && decide (1 ≤ r.epoch) && decide (r.seq ≤ 1073741824) && decide (r.epoch ≤ 1073741824) && fits r ps
def recCheck (r : Rec) (ps : List Piece) : Int := if recOk r ps then 0 else 130

theorem isPath_true {s : ByteArray} (h0 : 1 ≤ s.size) (h1 : s.size ≤ 255) (h : ∀ j : Nat, j < s.size → ∀ u, s[j]? = some u → okByte u = true) : isPath s = true := by
  simp only [isPath, Bool.and_eq_true, decide_eq_true_eq, List.all_eq_true]
  refine ⟨⟨h0, h1⟩, fun u hu => ?_⟩
  obtain ⟨j, hj, hju⟩ := List.mem_iff_getElem.1 hu
  refine h j (by simpa using hj) u ?_
  rw [← hju]
  show s[j]? = _
  have hj' : j < s.size := by simpa using hj
  rw [getElem?_pos s j hj']
  rfl

theorem isPath_false {s : ByteArray} {j : Nat} {u : UInt8} (hj : s[j]? = some u) (hu : (u.toNat : Int) < 33 ∨ (u.toNat : Int) > 126) : isPath s = false := by
  have hmem : u ∈ s.data.toList := by
    have hlt : j < s.size := by
      rcases Nat.lt_or_ge j s.size with h | h
      · exact h
      · rw [getElem?_neg s j (by omega)] at hj; cases hj
    rw [getElem?_pos s j hlt] at hj
    injection hj with hj
    subst hj
    exact List.mem_iff_getElem.2 ⟨j, by simpa using hlt, rfl⟩
  have : okByte u = false := by
    simp only [okByte, Bool.and_eq_false_iff, decide_eq_false_iff_not]
    omega
  simp only [isPath, Bool.and_eq_false_iff]
  right
  rw [List.all_eq_false]
  exact ⟨u, hmem, by simp [this]⟩

theorem isPath_short {s : ByteArray} (h : (s.size : Int) < 1 ∨ (s.size : Int) > 255) : isPath s = false := by
  simp only [isPath, Bool.and_eq_false_iff, decide_eq_false_iff_not]
  omega

theorem sizeGo_take_step {acc : Int} : ∀ {l : List Piece} {k : Nat} {p : Piece} {z : Int}, sizeGo acc (l.take k) = some z → l[k]? = some p →
    sizeGo acc (l.take (k + 1)) = (if p.n < 1 ∨ p.n > 4096 then none else if z + p.n > 1048576 then none else some (z + p.n))
  | [], k, p, z, _, hp => by simp at hp
  | q :: l, 0, p, z, h, hp => by
    simp [sizeGo] at hp h
    subst hp; subst h
    simp [sizeGo]
  | q :: l, k + 1, p, z, h, hp => by
    simp only [List.take_succ_cons, sizeGo] at h ⊢
    simp only [List.getElem?_cons_succ] at hp
    split at h
    · cases h
    · rename_i h1
      rw [if_neg h1]
      split at h
      · cases h
      · rename_i h2
        rw [if_neg h2]
        exact sizeGo_take_step h hp

theorem sizeGo_none_take {acc : Int} : ∀ {l : List Piece} {k : Nat}, sizeGo acc (l.take k) = none → sizeGo acc l = none
  | [], k, h => by simp [sizeGo] at h
  | q :: l, 0, h => by simp [sizeGo] at h
  | q :: l, k + 1, h => by
    simp only [List.take_succ_cons, sizeGo] at h ⊢
    split
    · rfl
    · rename_i h1
      rw [if_neg h1] at h
      split
      · rfl
      · rename_i h2
        rw [if_neg h2] at h
        exact sizeGo_none_take h

theorem sizeGo_range {acc z : Int} : ∀ {l : List Piece}, 0 ≤ acc → acc ≤ 1048576 → sizeGo acc l = some z → 0 ≤ z ∧ z ≤ 1048576 := by
  intro l
  induction l generalizing acc with
  | nil => intro h0 h1 h; simp [sizeGo] at h; omega
  | cons p l ih =>
    intro h0 h1 h
    simp only [sizeGo] at h
    split at h
    · cases h
    · split at h
      · cases h
      · exact ih (by omega) (by omega) h

theorem recSize_range {l : List Piece} {z : Int} (h : recSize l = some z) : 0 ≤ z ∧ z ≤ 1048576 := by
  unfold recSize at h
  split at h
  · cases h
  · exact sizeGo_range (by omega) (by omega) h

theorem sizeV_long {l : List Piece} (h : (l.length : Int) > 4096) : sizeV l = .tuple #[.int .i64 0, .int .i64 130] := by
  have : recSize l = none := by unfold recSize; rw [if_pos (by omega)]
  unfold sizeV; rw [this]
theorem sizeV_bad {l : List Piece} {k : Nat} {p : Piece} {z : Int} (hk : sizeGo 0 (l.take k) = some z) (hp : l[k]? = some p) (hb : (p.n < 1 ∨ p.n > 4096) ∨ z + p.n > 1048576) : sizeV l = .tuple #[.int .i64 0, .int .i64 130] := by
  have h1 := sizeGo_take_step hk hp
  have h2 : sizeGo 0 (l.take (k + 1)) = none := by
    rw [h1]
    rcases hb with hb | hb
    · rw [if_pos hb]
    · split
      · rfl
      · rfl
  have h3 : recSize l = none := by
    unfold recSize
    split
    · rfl
    · exact sizeGo_none_take h2
  unfold sizeV; rw [h3]
theorem sizeV_all {l : List Piece} {k : Nat} {z : Int} (hl : ¬ (l.length : Int) > 4096) (hk : sizeGo 0 (l.take k) = some z) (hkl : l.length ≤ k) : sizeV l = .tuple #[.int .i64 z, .int .i64 0] := by
  rw [List.take_of_length_le hkl] at hk
  have : recSize l = some z := by unfold recSize; rw [if_neg (by omega)]; exact hk
  unfold sizeV; rw [this]

theorem sizeV_parts (l : List Piece) : ∃ z e : Int, sizeV l = .tuple #[.int .i64 z, .int .i64 e] ∧ (recSize l).isSome = decide (e = 0) := by
  unfold sizeV
  cases recSize l with
  | none => exact ⟨0, 130, rfl, by simp⟩
  | some z => exact ⟨z, 0, rfl, by simp⟩

theorem fits_del_ok {r : Rec} {ps : List Piece} {e : Int} (hk : r.kind = 3) (h0 : ps.length = 0) (hz : (recSize ps).isSome = decide (e = 0)) :
    fits r ps = (decide (r.site = 0) && isPath r.path && decide (e = 0)) := by
  have h1 : ps = [] := List.eq_nil_of_length_eq_zero h0
  subst h1
  have h2 : decide (e = 0) = true := by rw [← hz]; rfl
  simp [fits, hk, h2]

/-! ### Namespaces -/

/-- A file, as data. -/
structure FileL where
  size : Int
  seq : Int
  ps : List Piece

def fileV (x : File × FileL) : Value := .agg (encFile x.1).toArray

def FD.zero : File × FileL := (File.zero, ⟨0, 0, []⟩)

/-- The file f in memory is the file l of the path k. -/
structure FRep (D : Heap) (k : ByteArray) (f : File) (l : FileL) : Prop where
  path : f.path = k
  size : f.size = l.size
  seq : f.seq = l.seq
  at_ : SliceAt D encPiece 33 f.pa f.pn f.pc l.ps
  tot : recSize l.ps = some l.size

theorem recSize_few {l : List Piece} {z : Int} (h : recSize l = some z) : l.length ≤ 4096 := by
  unfold recSize at h
  split at h
  · cases h
  · omega
theorem FRep.few {D : Heap} {k : ByteArray} {f : File} {l : FileL} (h : FRep D k f l) : l.ps.length ≤ 4096 := recSize_few h.tot

theorem FRep.mono {D D' : Heap} {k : ByteArray} {f : File} {l : FileL} (h : FRep D k f l) (hd : ∀ p, p ∈ D → p ∈ D') : FRep D' k f l := ⟨h.path, h.size, h.seq, h.at_.mono hd, h.tot⟩

abbrev FMap := List (ByteArray × (File × FileL))
def FilesAt (D : Heap) (m : FMap) : Prop := ∀ p ∈ m, FRep D p.1 p.2.1 p.2.2
theorem FilesAt.mono {D D' : Heap} {m : FMap} (h : FilesAt D m) (hd : ∀ p, p ∈ D → p ∈ D') : FilesAt D' m := fun p hp => (h p hp).mono hd

abbrev LMap := List (ByteArray × FileL)
def LM (m : FMap) : LMap := m.map fun p => (p.1, p.2.2)

theorem mget_LM (m : FMap) (k : ByteArray) : mget (LM m) k = (mget m k).map (·.2) := by
  unfold LM mget
  induction m with
  | nil => rfl
  | cons p m ih =>
    simp only [List.map_cons, List.find?_cons]
    by_cases h : p.1 = k
    · simp [h]
    · simp only [h, decide_false]; exact ih

theorem LM_length (m : FMap) : (LM m).length = m.length := by simp [LM]

theorem LM_mset (m : FMap) (k : ByteArray) (v : File × FileL) : LM (mset m k v) = mset (LM m) k v.2 := by
  unfold mset
  rw [mget_LM, Option.isSome_map]
  split
  · simp only [LM, List.map_map]
    apply List.map_congr_left
    intro p _
    simp only [Function.comp]
    split <;> rfl
  · simp [LM]

theorem LM_mdel (m : FMap) (k : ByteArray) : LM (mdel m k) = mdel (LM m) k := by
  unfold mdel LM
  rw [List.filter_map]
  rfl

theorem FilesAt.set {D : Heap} {m : FMap} {k : ByteArray} {f : File} {l : FileL} (h : FilesAt D m) (hf : FRep D k f l) : FilesAt D (mset m k (f, l)) := by
  intro p hp
  unfold mset at hp
  split at hp
  · obtain ⟨q, hq, rfl⟩ := List.mem_map.1 hp
    split
    · exact hf
    · exact h q hq
  · rcases List.mem_append.1 hp with hp | hp
    · exact h p hp
    · simp only [List.mem_singleton] at hp; subst hp; exact hf

theorem FilesAt.del {D : Heap} {m : FMap} {k : ByteArray} (h : FilesAt D m) : FilesAt D (mdel m k) := fun p hp => h p (List.mem_filter.1 hp).1

theorem FilesAt.get {D : Heap} {m : FMap} {k : ByteArray} {x : File × FileL} (h : FilesAt D m) (hg : mget m k = some x) : FRep D k x.1 x.2 := by
  unfold mget at hg
  cases hf : m.find? (fun p => decide (p.1 = k)) with
  | none => rw [hf] at hg; cases hg
  | some p =>
    rw [hf] at hg
    simp only [Option.map_some, Option.some.injEq] at hg
    subst hg
    have hk := List.find?_some hf
    simp only [decide_eq_true_eq] at hk
    subst hk
    exact h p (List.mem_of_find?_eq_some hf)

/-- May: the error. -/
def mayL (m : LMap) (r : Rec) (ps : List Piece) : Int :=
  if recOk r ps then
    if r.kind = 3 ∧ (mget m r.path).isSome = false then 150
    else if r.kind = 2 ∧ (mget m r.path).isSome = false ∧ 1024 ≤ m.length then 3
    else 0
  else 130

def applyL (m : LMap) (r : Rec) (ps : List Piece) : LMap :=
  if mayL m r ps = 0 then
    if r.kind = 2 then mset m r.path ⟨(recSize ps).getD 0, r.seq, ps⟩
    else if r.kind = 3 then mdel m r.path
    else m
  else m

theorem may_bad {m : LMap} {r : Rec} {ps : List Piece} (h : recCheck r ps ≠ 0) : mayL m r ps = recCheck r ps := by
  unfold recCheck at h ⊢
  unfold mayL
  split at h
  · exact absurd rfl h
  · rename_i h1; rw [if_neg h1, if_neg h1]
theorem recCheck_zero {r : Rec} {ps : List Piece} (h : ¬ recCheck r ps ≠ 0) : recOk r ps = true := by
  unfold recCheck at h
  split at h
  · assumption
  · exact absurd (by decide : (130 : Int) ≠ 0) h
theorem may_150 {m : FMap} {r : Rec} {ps : List Piece} (h0 : ¬ recCheck r ps ≠ 0) (h : r.kind = 3 ∧ (mget m r.path).isSome = false) : mayL (LM m) r ps = 150 := by
  unfold mayL
  rw [if_pos (recCheck_zero h0), if_pos ⟨h.1, by rw [mget_LM, Option.isSome_map]; exact h.2⟩]
theorem may_3 {m : FMap} {r : Rec} {ps : List Piece} {n : Nat} (hn : n = m.length) (h0 : ¬ recCheck r ps ≠ 0) (h : (r.kind = 2 ∧ (mget m r.path).isSome = false) ∧ (n : Int) ≥ 1024) : mayL (LM m) r ps = 3 := by
  unfold mayL
  rw [if_pos (recCheck_zero h0), if_neg (by omega), if_pos ⟨h.1.1, by rw [mget_LM, Option.isSome_map]; exact h.1.2, by rw [LM_length]; omega⟩]
theorem may_0 {m : FMap} {r : Rec} {ps : List Piece} {n : Nat} (hn : n = m.length) (h0 : ¬ recCheck r ps ≠ 0) (h : ¬ r.kind = 3 ∨ (mget m r.path).isSome = true) (h' : (¬ r.kind = 2 ∨ (mget m r.path).isSome = true) ∨ ¬ (n : Int) ≥ 1024) : mayL (LM m) r ps = 0 := by
  unfold mayL
  rw [if_pos (recCheck_zero h0), if_neg, if_neg]
  · rintro ⟨h1, h2, h3⟩
    rw [mget_LM, Option.isSome_map] at h2
    rw [LM_length] at h3
    rcases h' with (h' | h') | h'
    · exact h' h1
    · rw [h2] at h'; cases h'
    · omega
  · rintro ⟨h1, h2⟩
    rw [mget_LM, Option.isSome_map] at h2
    rcases h with h | h
    · exact h h1
    · rw [h2] at h; cases h

theorem apply_bad {m : LMap} {r : Rec} {ps : List Piece} (h : mayL m r ps ≠ 0) : applyL m r ps = m := by unfold applyL; rw [if_neg h]
theorem apply_put {m : LMap} {r : Rec} {ps : List Piece} {z : Int} (h : ¬ mayL m r ps ≠ 0) (hk : r.kind = 2) (hz : recSize ps = some z) : applyL m r ps = mset m r.path ⟨z, r.seq, ps⟩ := by
  unfold applyL; rw [if_pos (Decidable.not_not.1 h), if_pos hk, hz]; rfl
theorem apply_del {m : LMap} {r : Rec} {ps : List Piece} (h : ¬ mayL m r ps ≠ 0) (hk : ¬ r.kind = 2) (hk' : r.kind = 3) : applyL m r ps = mdel m r.path := by
  unfold applyL; rw [if_pos (Decidable.not_not.1 h), if_neg hk, if_pos hk']
theorem apply_lead {m : LMap} {r : Rec} {ps : List Piece} (h : ¬ mayL m r ps ≠ 0) (hk : ¬ r.kind = 2) (hk' : ¬ r.kind = 3) : applyL m r ps = m := by
  unfold applyL; rw [if_pos (Decidable.not_not.1 h), if_neg hk, if_neg hk']
theorem may_ok {m : LMap} {r : Rec} {ps : List Piece} (h : ¬ mayL m r ps ≠ 0) : recOk r ps = true := by
  unfold mayL at h
  split at h
  · assumption
  · exact absurd (by decide : (130 : Int) ≠ 0) h
theorem recOk_size {r : Rec} {ps : List Piece} (h : recOk r ps = true) (hk : r.kind = 2) : ∃ z, recSize ps = some z := by
  unfold recOk fits at h
  simp only [Bool.and_eq_true, decide_eq_true_eq] at h
  have h := h.2
  rw [if_neg (by omega), if_neg (by omega), if_pos hk] at h
  simp only [Bool.and_eq_true] at h
  exact Option.isSome_iff_exists.1 h.2
theorem sizeV_some {ps : List Piece} {z : Int} (h : recSize ps = some z) : sizeV ps = .tuple #[.int .i64 z, .int .i64 0] := by unfold sizeV; rw [h]

/-- A record with its pieces. -/
abbrev RP2 := Rec × List Piece
def encRecP (x : RP2) : List Value := encRec x.1
def RecsAt (D : Heap) (l : List RP2) : Prop := ∀ x ∈ l, SliceAt D encPiece 33 x.1.pa x.1.pn x.1.pc x.2
theorem RecsAt.mono {D D' : Heap} {l : List RP2} (h : RecsAt D l) (hd : ∀ p, p ∈ D → p ∈ D') : RecsAt D' l := fun x hx => (h x hx).mono hd

/-- All of some records done, or none. -/
def runL : LMap → List RP2 → Option LMap
  | m, [] => some m
  | m, x :: r => if mayL m x.1 x.2 = 0 then runL (applyL m x.1 x.2) r else none

theorem runL_snoc {x : RP2} : ∀ {l : List RP2} {m m' : LMap}, runL m l = some m' → runL m (l ++ [x]) = if mayL m' x.1 x.2 = 0 then some (applyL m' x.1 x.2) else none
  | [], m, m', h => by simp [runL] at h; subst h; simp [runL]
  | y :: l, m, m', h => by
    simp only [runL, List.cons_append] at h ⊢
    split at h
    · rename_i h1; rw [if_pos h1]; exact runL_snoc h
    · cases h

theorem runL_step {l : List RP2} {k : Nat} {x : RP2} {m : LMap} (h : runL [] (l.take k) = some m) (hx : l[k]? = some x) (h0 : mayL m x.1 x.2 = 0) : runL [] (l.take (k + 1)) = some (applyL m x.1 x.2) := by
  have hlt := (List.getElem?_eq_some_iff.1 hx).1
  have : l.take (k + 1) = l.take k ++ [x] := by rw [List.take_add_one, hx]; rfl
  rw [this, runL_snoc h, if_pos h0]

theorem recOk_few {r : Rec} {ps : List Piece} (h : recOk r ps = true) : ps.length ≤ 4096 := by
  unfold recOk fits at h
  simp only [Bool.and_eq_true, decide_eq_true_eq] at h
  have h := h.2
  split at h
  · simp only [Bool.and_eq_true, decide_eq_true_eq] at h; omega
  · split at h
    · simp only [Bool.and_eq_true, decide_eq_true_eq] at h; omega
    · split at h
      · simp only [Bool.and_eq_true] at h
        have := h.2
        unfold recSize at this
        split at this
        · cases this
        · omega
      · cases h

/-! ### Stat, Seek -/

/-- What Stat answers. -/
def StatP (D : Heap) (m : LMap) (k : ByteArray) (f : File) (e : Int) : Prop :=
  match mget m k with
  | none => f = File.zero ∧ e = 150
  | some l => FRep D k f l ∧ e = 0

theorem StatP.mono {D D' : Heap} {m : LMap} {k : ByteArray} {f : File} {e : Int} (h : StatP D m k f e) (hd : ∀ p, p ∈ D → p ∈ D') : StatP D' m k f e := by
  unfold StatP at h ⊢
  split at h
  · exact h
  · exact ⟨h.1.mono hd, h.2⟩
theorem StatP.none {D : Heap} {m : FMap} {k : ByteArray} (h : (mget m k).isSome = false) : StatP D (LM m) k File.zero 150 := by
  unfold StatP
  rw [mget_LM]
  cases hm : mget m k with
  | none => exact ⟨rfl, rfl⟩
  | some x => rw [hm] at h; cases h
theorem StatP.some {D : Heap} {m : FMap} {k : ByteArray} {f : File} {x : File × FileL} (h : mget m k = some x) (hf : FRep D k f x.2) : StatP D (LM m) k f 0 := by
  unfold StatP
  rw [mget_LM, h]
  exact ⟨hf, rfl⟩
theorem StatP.ok {D : Heap} {m : LMap} {k : ByteArray} {f : File} {e : Int} (h : StatP D m k f e) (h0 : ¬ e ≠ 0) : ∃ l, mget m k = Option.some l ∧ FRep D k f l := by
  unfold StatP at h
  split at h
  · exact absurd h.2 (by omega)
  · exact ⟨_, by assumption, h.1⟩
theorem StatP.bad {D : Heap} {m : LMap} {k : ByteArray} {f : File} {e : Int} (h : StatP D m k f e) (h0 : e ≠ 0) : mget m k = Option.none ∧ e = 150 := by
  unfold StatP at h
  split at h
  · exact ⟨by assumption, h.2⟩
  · exact absurd h.2 h0

def endsL : Int → List Piece → List Int
  | _, [] => []
  | z, p :: r => (z + p.n) :: endsL (z + p.n) r

theorem endsL_length : ∀ (ps : List Piece) (z : Int), (endsL z ps).length = ps.length
  | [], _ => rfl
  | p :: r, z => by simp [endsL, endsL_length r]

theorem sizeGo_take_some {acc z : Int} : ∀ {l : List Piece} {k : Nat}, sizeGo acc l = some z → ∃ u, sizeGo acc (l.take k) = some u
  | l, k, h => by
    cases hk : sizeGo acc (l.take k) with
    | some u => exact ⟨u, rfl⟩
    | none => rw [sizeGo_none_take hk] at h; cases h

theorem endsL_get {acc : Int} : ∀ {l : List Piece} {k : Nat} {p : Piece} {z : Int}, sizeGo acc (l.take k) = some z → l[k]? = some p → (endsL acc l)[k]? = some (z + p.n)
  | [], k, p, z, _, hp => by simp at hp
  | q :: l, 0, p, z, h, hp => by
    simp [sizeGo] at hp h
    subst hp; subst h
    simp [endsL]
  | q :: l, k + 1, p, z, h, hp => by
    simp only [List.take_succ_cons, sizeGo] at h
    simp only [List.getElem?_cons_succ] at hp
    split at h
    · cases h
    · split at h
      · cases h
      · simp only [endsL, List.getElem?_cons_succ]
        exact endsL_get h hp

theorem endsL_take {acc : Int} : ∀ {l : List Piece} {k : Nat}, endsL acc (l.take k) = (endsL acc l).take k
  | [], k => by simp [endsL]
  | q :: l, 0 => by simp [endsL]
  | q :: l, k + 1 => by simp [endsL, endsL_take (l := l) (k := k)]

theorem endsL_step {l : List Piece} {k : Nat} {p : Piece} {z : Int} (h : sizeGo 0 (l.take k) = some z) (hp : l[k]? = some p) : endsL 0 (l.take (k + 1)) = endsL 0 (l.take k) ++ [z + p.n] := by
  rw [endsL_take, endsL_take, List.take_add_one, endsL_get h hp]
  rfl

/-- Where a piece is good, its length is. -/
theorem sizeGo_piece {acc z : Int} : ∀ {l : List Piece} {k : Nat} {p : Piece}, sizeGo acc l = some z → l[k]? = some p → 1 ≤ p.n ∧ p.n ≤ 4096
  | [], k, p, _, hp => by simp at hp
  | q :: l, 0, p, h, hp => by
    simp at hp; subst hp
    simp only [sizeGo] at h
    split at h
    · cases h
    · omega
  | q :: l, k + 1, p, h, hp => by
    simp only [sizeGo] at h
    simp only [List.getElem?_cons_succ] at hp
    split at h
    · cases h
    · split at h
      · cases h
      · exact sizeGo_piece h hp

theorem sizeGo_le {acc z : Int} : ∀ {l : List Piece}, sizeGo acc l = some z → acc ≤ z
  | [], h => by simp [sizeGo] at h; omega
  | q :: l, h => by
    simp only [sizeGo] at h
    split at h
    · cases h
    · split at h
      · cases h
      · have := sizeGo_le h; omega

theorem sizeGo_take_le {acc z : Int} : ∀ {l : List Piece} {k : Nat} {u : Int}, sizeGo acc l = some z → sizeGo acc (l.take k) = some u → u ≤ z
  | [], k, u, h, hu => by simp [sizeGo] at h hu; omega
  | q :: l, 0, u, h, hu => by
    have := sizeGo_le h
    simp [sizeGo] at hu; omega
  | q :: l, k + 1, u, h, hu => by
    simp only [List.take_succ_cons, sizeGo] at h hu
    split at h
    · cases h
    · rename_i h1
      rw [if_neg h1] at hu
      split at h
      · cases h
      · rename_i h2
        rw [if_neg h2] at hu
        exact sizeGo_take_le h hu

theorem recSize_go {l : List Piece} {z : Int} (h : recSize l = some z) : sizeGo 0 l = some z := by
  unfold recSize at h
  split at h
  · cases h
  · exact h

theorem endsL_mono {acc z : Int} : ∀ {l : List Piece}, sizeGo acc l = some z → ∀ (p q : Nat) (x y : Int), p ≤ q → (endsL acc l)[p]? = some x → (endsL acc l)[q]? = some y → x ≤ y ∧ acc ≤ x
  | [], _, p, q, x, y, _, hx, _ => by simp [endsL] at hx
  | r :: l, h, p, q, x, y, hpq, hx, hy => by
    simp only [sizeGo] at h
    split at h
    · cases h
    · split at h
      · cases h
      · simp only [endsL] at hx hy
        cases p with
        | zero =>
          simp at hx; subst hx
          cases q with
          | zero => simp at hy; omega
          | succ q =>
            simp only [List.getElem?_cons_succ] at hy
            have := (endsL_mono h q q y y (Nat.le_refl _) hy hy).2
            omega
        | succ p =>
          cases q with
          | zero => omega
          | succ q =>
            simp only [List.getElem?_cons_succ] at hx hy
            have := endsL_mono h p q x y (by omega) hx hy
            omega

theorem sizeGo_take_next {t z : Int} {l : List Piece} {k : Nat} {p : Piece} (ht : sizeGo 0 l = some t) (hz : sizeGo 0 (l.take k) = some z) (hp : l[k]? = some p) : sizeGo 0 (l.take (k + 1)) = some (z + p.n) := by
  have h := sizeGo_take_step hz hp
  split at h
  · rw [sizeGo_none_take h] at ht; cases ht
  · split at h
    · rw [sizeGo_none_take h] at ht; cases ht
    · exact h

theorem search_lo {bl : List Int} {fr h x : Int} (hmon : ∀ (p q : Nat) (x y : Int), p ≤ q → bl[p]? = some x → bl[q]? = some y → x ≤ y) (h0 : 0 ≤ h) (hx : bl[h.toNat]? = some x) (hc : ¬ x > fr) :
    ∀ q : Nat, (q : Int) < h + 1 → ∀ y, bl[q]? = some y → y ≤ fr := fun q hq y hy => by
  have := hmon q h.toNat y x (by omega) hy hx
  omega
theorem search_hi {bl : List Int} {fr h x : Int} (hmon : ∀ (p q : Nat) (x y : Int), p ≤ q → bl[p]? = some x → bl[q]? = some y → x ≤ y) (hx : bl[h.toNat]? = some x) (hc : x > fr) :
    ∀ q : Nat, h ≤ (q : Int) → ∀ y, bl[q]? = some y → y > fr := fun q hq y hy => by
  have := hmon h.toNat q x y (by omega) hx hy
  omega

/-- The parts behind the offset z: from..to of the file. -/
def partsGo (from_ to : Int) : Int → List Piece → List Part
  | _, [] => []
  | z, p :: r => if z + p.n ≤ from_ then partsGo from_ to (z + p.n) r
    else if z ≥ to then [] else ⟨p.d, p.n, max (from_ - z) 0, min (to - z) p.n⟩ :: partsGo from_ to (z + p.n) r
def seekL (ps : List Piece) (from_ size : Int) : List Part := if size > 0 then partsGo from_ (from_ + size) 0 ps else []

theorem partsGo_skip {from_ to acc : Int} : ∀ {l : List Piece} {k : Nat} {z : Int}, sizeGo acc (l.take k) = some z → k ≤ l.length → (∀ q : Nat, q < k → ∀ x, (endsL acc l)[q]? = some x → x ≤ from_) →
    partsGo from_ to acc l = partsGo from_ to z (l.drop k)
  | [], k, z, h, hk, _ => by simp [sizeGo] at h; subst h; simp [partsGo]
  | p :: l, 0, z, h, hk, _ => by simp [sizeGo] at h; subst h; simp
  | p :: l, k + 1, z, h, hk, hx => by
    simp only [List.take_succ_cons, sizeGo] at h
    split at h
    · cases h
    · split at h
      · cases h
      · have h0 := hx 0 (by omega) (acc + p.n) (by simp [endsL])
        simp only [partsGo, List.drop_succ_cons]
        rw [if_pos h0]
        exact partsGo_skip h (by simpa using hk) (fun q hq x hxx => hx (q + 1) (by omega) x (by simpa [endsL] using hxx))

theorem seek_start {l : List Piece} {k : Nat} {z from_ size : Int} (h : sizeGo 0 (l.take k) = some z) (hk : k ≤ l.length) (hx : ∀ q : Nat, q < k → ∀ x, (endsL 0 l)[q]? = some x → x ≤ from_) :
    (0 < size → [] ++ partsGo from_ (from_ + size) z (l.drop k) = seekL l from_ size) := fun h0 => by
  unfold seekL
  rw [if_pos h0, List.nil_append, partsGo_skip h hk hx]

theorem seek_step {l : List Piece} {ls : List Part} {k : Nat} {z from_ size s : Int} {p : Piece} (hs : s = z) (h : 0 < size → ls ++ partsGo from_ (from_ + size) z (l.drop k) = seekL l from_ size) (hp : l[k]? = some p) (h1 : z + p.n > from_) (h2 : ¬ z ≥ from_ + size) :
    (0 < size → (ls ++ [⟨p.d, p.n, max (from_ - s) 0, min (from_ + size - s) p.n⟩]) ++ partsGo from_ (from_ + size) (z + p.n) (l.drop (k + 1)) = seekL l from_ size) := fun h0 => by
  subst hs
  rw [← h h0]
  have hlt := (List.getElem?_eq_some_iff.1 hp)
  obtain ⟨hlt, hp⟩ := hlt
  rw [List.drop_eq_getElem_cons hlt, hp]
  simp only [partsGo]
  rw [if_neg (by omega), if_neg h2]
  simp

theorem seek_stop {l : List Piece} {ls : List Part} {k : Nat} {z from_ size s : Int} {p : Piece} (hs : s = z) (h : 0 < size → ls ++ partsGo from_ (from_ + size) z (l.drop k) = seekL l from_ size) (hp : l[k]? = some p) (h1 : z + p.n > from_) (h2 : s ≥ from_ + size) (h0 : 0 < size) :
    ls = seekL l from_ size := by
  subst hs
  rw [← h h0]
  obtain ⟨hlt, hp⟩ := List.getElem?_eq_some_iff.1 hp
  rw [List.drop_eq_getElem_cons hlt, hp]
  simp only [partsGo]
  rw [if_neg (by omega), if_pos h2]
  simp

theorem seek_end {l : List Piece} {ls : List Part} {k : Nat} {z from_ size : Int} (h : 0 < size → ls ++ partsGo from_ (from_ + size) z (l.drop k) = seekL l from_ size) (h' : ¬ 0 < size → ls = []) (hc : ¬ (k : Int) < l.length ∨ ¬ size > 0) :
    ls = seekL l from_ size := by
  by_cases h0 : 0 < size
  · have hk : l.length ≤ k := by omega
    rw [← h h0, List.drop_eq_nil_of_le hk]
    simp [partsGo]
  · rw [h' h0]
    unfold seekL
    rw [if_neg (by omega)]

/-- What Seek answers. -/
def seekRes (m : LMap) (k : ByteArray) (from_ size : Int) : List Part × Int :=
  match mget m k with
  | none => ([], 150)
  | some f => if min from_ size < 0 ∨ from_ > f.size ∨ size > f.size - from_ then ([], 5) else (seekL f.ps from_ size, 0)

theorem seekRes_none {m : LMap} {k : ByteArray} {from_ size : Int} (h : mget m k = none) : seekRes m k from_ size = ([], 150) := by unfold seekRes; rw [h]
theorem seekRes_range {m : LMap} {k : ByteArray} {from_ size : Int} {f : FileL} (h : mget m k = some f) (hc : (min from_ size < 0 ∨ from_ > f.size) ∨ size > f.size - from_) : seekRes m k from_ size = ([], 5) := by
  unfold seekRes; rw [h]; simp only; rw [if_pos (by omega)]
theorem seekRes_ok {m : LMap} {k : ByteArray} {from_ size : Int} {f : FileL} (h : mget m k = some f) (hc : (¬ min from_ size < 0 ∧ ¬ from_ > f.size) ∧ ¬ size > f.size - from_) : seekRes m k from_ size = (seekL f.ps from_ size, 0) := by
  unfold seekRes; rw [h]; simp only; rw [if_neg (by omega)]

theorem own_post {α : Type} {enc : α → List Value} {sz : Nat} {T : TypeId} {n : Nat} {H D : Heap} {v : Value} {X : Heap} {l : List α} (hn : l.length = n) (ho : Own sz T v (l.map enc) X) :
    ∃ a2 c2 X2, retV [v] = .slice a2 n c2 ∧ X ++ H = X2 ++ H ∧ SliceAt (X2 ++ D) enc sz a2 n c2 l := by
  subst hn
  obtain ⟨a, c, rfl, hs⟩ := ho.at
  exact ⟨a, c, X, rfl, rfl, hs.mono fun p hp => List.mem_append_left _ hp⟩

theorem own_ret {α : Type} {enc : α → List Value} {sz : Nat} {T : TypeId} {G X H D : Heap} {v w : Value} {Xo : Heap} {l l' : List α} (ho : Own sz T v (l.map enc) Xo) (hX : G = X ++ H) (hsub : ∀ p, p ∈ Xo → p ∈ X ++ D) (hl : l = l') :
    ∃ a n c X', retV [v, w] = .tuple #[.slice a n c, w] ∧ G = X' ++ H ∧ SliceAt (X' ++ D) enc sz a n c l' := by
  subst hl
  obtain ⟨a, c, rfl, hs⟩ := ho.at
  exact ⟨a, _, c, X, rfl, hX, hs.mono hsub⟩

/-! ### The file of law.go -/

def filePs : List Piece := [⟨Dig.zero, 3⟩, ⟨Dig.zero, 5⟩, ⟨Dig.zero, 2⟩]
def fileR (b : Nat) : Rec := ⟨1, 1, Dig.zero, 2, 0, ⟨#[97]⟩, some ⟨b, 0, none⟩, 3, 3⟩
def aliveL : LMap := [(⟨#[97]⟩, ⟨10, 1, filePs⟩)]
theorem alive_ok (b : Nat) : recOk (fileR b) filePs = true := by
  have h : isPath ⟨#[97]⟩ = true := by decide
  simp [recOk, fits, fileR, h]; decide
theorem alive_run (b : Nat) : runL [] [(fileR b, filePs)] = some aliveL := by
  have h0 : mayL [] (fileR b) filePs = 0 := by
    unfold mayL; rw [if_pos (alive_ok b), if_neg (by simp [fileR]), if_neg (by simp)]
  simp only [runL, if_pos h0]
  unfold applyL
  rw [if_pos h0, if_pos (show (fileR b).kind = 2 from rfl)]
  rfl
theorem alive_seek1 : seekRes aliveL ⟨#[97]⟩ 2 4 = ([⟨Dig.zero, 3, 2, 3⟩, ⟨Dig.zero, 5, 0, 3⟩], 0) := by decide
theorem alive_seek2 : seekRes aliveL ⟨#[97]⟩ 10 1 = ([], 5) := by decide
theorem runL_bad {x : RP2} : ∀ {l : List RP2} {k : Nat} {m m' : LMap}, runL m (l.take k) = some m' → l[k]? = some x → mayL m' x.1 x.2 ≠ 0 → runL m l = none
  | [], k, m, m', _, hx, _ => by simp at hx
  | y :: l, 0, m, m', h, hx, h0 => by
    simp [runL] at h hx
    subst h; subst hx
    simp only [runL, if_neg h0]
  | y :: l, k + 1, m, m', h, hx, h0 => by
    simp only [List.take_succ_cons, runL] at h ⊢
    split at h
    · rename_i h1; rw [if_pos h1]; exact runL_bad h (by simpa using hx) h0
    · cases h

/-- A namespace that nobody made. -/
def NilLike (D : Heap) (v : Value) : Prop := v = .pointer none ∨ ∃ b, v = .pointer (some ⟨b, 0, none⟩) ∧ (b, .cells ([.map none] : List Value).toArray 57 (0, 0)) ∈ D
theorem NilLike.mono {D D' : Heap} {v : Value} (h : NilLike D v) (hd : ∀ p, p ∈ D → p ∈ D') : NilLike D' v := h.elim .inl fun ⟨b, e, hb⟩ => .inr ⟨b, e, hd _ hb⟩

end Go.Sal
