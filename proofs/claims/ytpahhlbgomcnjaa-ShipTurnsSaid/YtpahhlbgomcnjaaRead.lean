/- The readings of the program's plain data: digests, pieces, records, and slices of them. -/
import Derived.Test.YtpahhlbgomcnjaaRow
namespace Go.Sal
open Go.ChangeShapes Go.WideShapes Go.ChangeAt Go.RowKit
set_option linter.unusedVariables false
variable {P : Program} {E : Env} {H : Type} {enc : TypeId × Value → H} {W : World} {sp : Nat → Bool}

theorem build_list {α : Type} {Q : Nat → α → Prop} : ∀ (n : Nat), (∀ i, i < n → ∃ x, Q i x) → ∃ l : List α, l.length = n ∧ ∀ i x, l[i]? = some x → Q i x
  | 0, _ => ⟨[], rfl, fun i x h => by simp at h⟩
  | n + 1, h => by
    obtain ⟨l, hl, hq⟩ := build_list n (fun i hi => h i (by omega))
    obtain ⟨x, hx⟩ := h n (by omega)
    refine ⟨l ++ [x], by simp [hl], fun i y hy => ?_⟩
    by_cases hi : i < l.length
    · rw [List.getElem?_append_left hi] at hy; exact hq i y hy
    · rw [List.getElem?_append_right (by omega)] at hy
      by_cases he : i = l.length
      · subst he
        simp at hy
        subst hy
        rw [hl]; exact hx
      · rw [List.getElem?_eq_none (by simp; omega)] at hy; cases hy

theorem read_sliceAt {α : Type} {en : α → List Value} {R : α → Prop} {t e : TypeId} {sz : Nat} {cs : List Value} (h : Reads enc P W sp t cs) (ht : P.underlying t = some (.slice e)) (hc : P.cellsOf e = sz) (hpos : 0 < sz)
    (hr : ∀ xs, Reads enc P W sp e xs → ∃ x, xs = en x ∧ R x) : ∃ a n c l, cs = [.slice a n c] ∧ SliceAt (allBlocks W) en sz a n c l ∧ (∀ x ∈ l, R x) ∧ c ≤ maxLen := by
  rcases read_slice h ht with rfl | ⟨a, len, cap, rfl, h1, h2, h3⟩
  · exact ⟨none, 0, 0, [], rfl, .nil, by simp, Nat.zero_le _⟩
  · rw [hc] at h3
    obtain ⟨l, hl, hq⟩ := build_list (Q := fun i x => W.cells? 0 (a.add (i * sz)) sz = some (en x) ∧ R x) len (fun i hi => by
      obtain ⟨xs, hx, hy⟩ := h3 i hi
      obtain ⟨x, rfl, hR⟩ := hr xs hy
      exact ⟨x, hx, hR⟩)
    refine ⟨some a, len, cap, l, rfl, ⟨hl, h1, fun h0 => ?_⟩, fun x hx => ?_, h2⟩
    · obtain ⟨x0, hx0⟩ : ∃ x, l[0]? = some x := getSome (by omega)
      obtain ⟨hc0, _⟩ := hq 0 x0 hx0
      obtain ⟨hl0, hc0⟩ := cells_at hc0
      obtain ⟨v0, hv0⟩ : ∃ v, (en x0)[0]? = some v := getSome (by omega)
      have hv := hc0 0 v0 hv0
      simp only [Nat.zero_mul, Addr.add, if_true] at hv
      unfold World.cell? at hv
      split at hv
      · rename_i c T fr hb
        split at hv
        · cases hv
        · rename_i hs
          obtain ⟨b, off, spot⟩ := a
          have hsn : spot = none := by cases spot <;> simp_all
          subst hsn
          refine ⟨b, off, c, T, fr, rfl, mem_allBlocks.2 hb, fun i x hi => ?_⟩
          rw [List.getElem?_map] at hi
          cases hli : l[i]? with
          | none => rw [hli] at hi; cases hi
          | some y =>
            rw [hli] at hi
            simp only [Option.map_some, Option.some.injEq] at hi
            subst hi
            obtain ⟨hci, _⟩ := hq i y hli
            obtain ⟨hli, hci⟩ := cells_at hci
            refine ⟨hli, fun j v hj => ?_⟩
            have := hci j v hj
            rw [addr_add, addr_add] at this
            unfold World.cell? at this
            simp only [hb] at this
            exact this
      · cases hv
    · obtain ⟨i, hi⟩ := List.getElem?_of_mem hx
      exact (hq i x hi).2

theorem read_u8 {t : TypeId} {cs : List Value} (h : Reads enc P W sp t cs) (ht : P.underlying t = some (.int .u8)) : ∃ b : UInt8, cs = [.int .u8 (b.toNat : Int)] := by
  obtain ⟨v, rfl, hw⟩ := read_int h ht
  have hv : 0 ≤ v ∧ v ≤ 255 := by simpa [Lit.wf, IntKind.min, IntKind.max, IntKind.signed, IntKind.bits] using hw
  refine ⟨UInt8.ofNat v.toNat, ?_⟩
  have : ((UInt8.ofNat v.toNat).toNat : Int) = v := by
    rw [UInt8.toNat_ofNat']; omega
  rw [this]
theorem read_i64 {t : TypeId} {cs : List Value} (h : Reads enc P W sp t cs) (ht : P.underlying t = some (.int .i64)) : ∃ v : Int, cs = [.int .i64 v] ∧ -9223372036854775808 ≤ v ∧ v ≤ 9223372036854775807 := by
  obtain ⟨v, rfl, hw⟩ := read_int h ht
  exact ⟨v, rfl, by simpa [Lit.wf, IntKind.min, IntKind.max, IntKind.signed, IntKind.bits] using hw⟩

def Dig.of (f : Nat → UInt8) : Dig := ⟨f 0, f 1, f 2, f 3, f 4, f 5, f 6, f 7, f 8, f 9, f 10, f 11, f 12, f 13, f 14, f 15, f 16, f 17, f 18, f 19, f 20, f 21, f 22, f 23, f 24, f 25, f 26, f 27, f 28, f 29, f 30, f 31⟩
theorem encDig_of (f : Nat → UInt8) : encDig (Dig.of f) = (List.range 32).map fun i => .int .u8 ((f i).toNat : Int) := rfl

theorem read_dig {t e : TypeId} {cs : List Value} (h : Reads enc P W sp t cs) (ht : P.underlying t = some (.array 32 e)) (he : P.underlying e = some (.int .u8)) (hc : P.cellsOf e = 1) (hc32 : P.cellsOf t = 32) : ∃ d, cs = encDig d := by
  obtain ⟨hl, hr⟩ := read_array h ht
  rw [hc32] at hl
  have hv : ∀ i, ∃ b : UInt8, i < 32 → cs[i]? = some (.int .u8 (b.toNat : Int)) := fun i => by
    by_cases hi : i < 32
    · have := hr i hi
      rw [hc, Nat.mul_one] at this
      obtain ⟨b, hb⟩ := read_u8 this he
      refine ⟨b, fun _ => ?_⟩
      have h0 : ((cs.drop i).take 1)[0]? = some (.int .u8 (b.toNat : Int)) := by rw [hb]; rfl
      rw [List.getElem?_take_of_lt (by omega), List.getElem?_drop, Nat.add_zero] at h0
      exact h0
    · exact ⟨0, fun h => absurd h hi⟩
  refine ⟨Dig.of fun i => (hv i).choose, ?_⟩
  rw [encDig_of]
  apply List.ext_getElem?
  intro i
  rw [List.getElem?_map]
  by_cases hi : i < 32
  · rw [List.getElem?_range hi, (hv i).choose_spec hi]; rfl
  · rw [List.getElem?_eq_none (by omega), List.getElem?_eq_none (by simp; omega)]; rfl

theorem read_field {t u : TypeId} {fs : Array Field} {cs : List Value} {o c : Nat} (h : Reads enc P W sp t cs) (ht : P.underlying t = some (.struct fs)) (hf : fs.toList.any (fun f => decide (f.type = u) && decide (f.offset = o)) = true) (hc : P.cellsOf u = c) : Reads enc P W sp u ((cs.drop o).take c) := by
  obtain ⟨f, hf, he⟩ := List.any_eq_true.1 hf
  simp only [Bool.and_eq_true, decide_eq_true_eq] at he
  have := (read_struct h ht).2 f hf
  rw [he.1, he.2, hc] at this
  exact this

theorem cut_at (cs : List Value) (a c : Nat) : cs.drop a = (cs.drop a).take c ++ cs.drop (a + c) := by
  rw [← List.drop_drop, List.take_append_drop]

theorem encPiece_eq (p : Piece) : encPiece p = encDig p.d ++ [.int .i64 p.n] := rfl
theorem encRec_eq (r : Rec) : encRec r = [.int .i64 r.seq] ++ ([.int .i64 r.epoch] ++ (encDig r.prev ++ ([.int .i64 r.kind] ++ ([.int .i64 r.site] ++ ([.string r.path] ++ [.slice r.pa r.pn r.pc]))))) := rfl

/-- A struct type's fields. -/
def fsOf (P : Program) (t : TypeId) : Array Field := match P.underlying t with
  | some (.struct fs) => fs
  | _ => #[]

/-- The types of a program's plain data. -/
structure Kinds (P : Program) (tD tB tN tP tSP tR tS : TypeId) (fp fr : Array Field) : Prop where
  dig : P.underlying tD = some (.array 32 tB)
  byt : P.underlying tB = some (.int .u8)
  int : P.underlying tN = some (.int .i64)
  piece : P.underlying tP = some (.struct fp)
  pieces : P.underlying tSP = some (.slice tP)
  rec_ : P.underlying tR = some (.struct fr)
  str : P.underlying tS = some .string
  cB : P.cellsOf tB = 1
  cD : P.cellsOf tD = 32
  cN : P.cellsOf tN = 1
  cP : P.cellsOf tP = 33
  cSP : P.cellsOf tSP = 1
  cR : P.cellsOf tR = 38
  cS : P.cellsOf tS = 1
  p0 : fp.toList.any (fun f => decide (f.type = tD) && decide (f.offset = 0)) = true
  p1 : fp.toList.any (fun f => decide (f.type = tN) && decide (f.offset = 32)) = true

theorem Kinds.readPiece {tD tB tN tP tSP tR tS : TypeId} {fp fr : Array Field} (K : Kinds P tD tB tN tP tSP tR tS fp fr) {cs : List Value} (h : Reads enc P W sp tP cs) :
    ∃ p : Piece, cs = encPiece p ∧ (-9223372036854775808 ≤ p.n ∧ p.n ≤ 9223372036854775807) := by
  have hl := (read_struct h K.piece).1
  rw [K.cP] at hl
  obtain ⟨d, hd⟩ := read_dig (read_field h K.piece K.p0 K.cD) K.dig K.byt K.cB K.cD
  obtain ⟨n, hn, hw⟩ := read_i64 (read_field h K.piece K.p1 K.cN) K.int
  refine ⟨⟨d, n⟩, ?_, hw⟩
  have e0 := cut_at cs 0 32
  have e1 := cut_at cs 32 1
  rw [hd] at e0
  rw [hn, List.drop_eq_nil_of_le (by omega : cs.length ≤ 32 + 1)] at e1
  rw [encPiece_eq, show cs = cs.drop 0 from rfl, e0, Nat.zero_add, e1]
  rfl

/-- A record's numbers are what 64 bits hold. -/
def RecWf (r : Rec) : Prop := (-9223372036854775808 ≤ r.seq ∧ r.seq ≤ 9223372036854775807) ∧ (-9223372036854775808 ≤ r.epoch ∧ r.epoch ≤ 9223372036854775807) ∧ r.path.size ≤ maxLen ∧ r.pc ≤ maxLen

theorem Kinds.readRec {tD tB tN tP tSP tR tS tK tU : TypeId} {fp fr : Array Field} (K : Kinds P tD tB tN tP tSP tR tS fp fr) (hK : P.underlying tK = some (.int .i64)) (cK : P.cellsOf tK = 1) (hU : P.underlying tU = some (.int .i64)) (cU : P.cellsOf tU = 1)
    (f0 : fr.toList.any (fun f => decide (f.type = tN) && decide (f.offset = 0)) = true) (f1 : fr.toList.any (fun f => decide (f.type = tN) && decide (f.offset = 1)) = true)
    (f2 : fr.toList.any (fun f => decide (f.type = tD) && decide (f.offset = 2)) = true) (f3 : fr.toList.any (fun f => decide (f.type = tK) && decide (f.offset = 34)) = true)
    (f4 : fr.toList.any (fun f => decide (f.type = tU) && decide (f.offset = 35)) = true) (f5 : fr.toList.any (fun f => decide (f.type = tS) && decide (f.offset = 36)) = true)
    (f6 : fr.toList.any (fun f => decide (f.type = tSP) && decide (f.offset = 37)) = true) {cs : List Value} (h : Reads enc P W sp tR cs) :
    ∃ x : Rec × List Piece, cs = encRec x.1 ∧ RecWf x.1 ∧ SliceAt (allBlocks W) encPiece 33 x.1.pa x.1.pn x.1.pc x.2 := by
  have hl := (read_struct h K.rec_).1
  rw [K.cR] at hl
  obtain ⟨n0, h0, w0⟩ := read_i64 (read_field h K.rec_ f0 K.cN) K.int
  obtain ⟨n1, h1, w1⟩ := read_i64 (read_field h K.rec_ f1 K.cN) K.int
  obtain ⟨d, hd⟩ := read_dig (read_field h K.rec_ f2 K.cD) K.dig K.byt K.cB K.cD
  obtain ⟨n3, h3, w3⟩ := read_i64 (read_field h K.rec_ f3 cK) hK
  obtain ⟨n4, h4, w4⟩ := read_i64 (read_field h K.rec_ f4 cU) hU
  obtain ⟨s, h5, w5⟩ := read_string (read_field h K.rec_ f5 K.cS) K.str
  obtain ⟨a, n, c, l, h6, hs, _, hcm⟩ := read_sliceAt (R := fun _ => True) (read_field h K.rec_ f6 K.cSP) K.pieces K.cP (by omega) (fun xs hx => let ⟨p, hp, _⟩ := K.readPiece hx; ⟨p, hp, trivial⟩)
  refine ⟨(⟨n0, n1, d, n3, n4, s, a, n, c⟩, l), ?_, ⟨w0, w1, w5, hcm⟩, hs⟩
  have e0 := cut_at cs 0 1
  have e1 := cut_at cs 1 1
  have e2 := cut_at cs 2 32
  have e3 := cut_at cs 34 1
  have e4 := cut_at cs 35 1
  have e5 := cut_at cs 36 1
  have e6 := cut_at cs 37 1
  rw [h0] at e0
  rw [h1] at e1
  rw [hd] at e2
  rw [h3] at e3
  rw [h4] at e4
  rw [h5] at e5
  rw [h6, List.drop_eq_nil_of_le (by omega : cs.length ≤ 37 + 1), List.append_nil] at e6
  rw [encRec_eq]
  refine (show cs = cs.drop 0 from rfl).trans (e0.trans ?_)
  rw [Nat.zero_add, e1, e2, e3, e4, e5, e6]
end Go.Sal
