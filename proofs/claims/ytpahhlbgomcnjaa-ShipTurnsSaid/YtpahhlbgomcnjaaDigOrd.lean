/- Digests: their order, comparing them. -/
import Derived.Test.YtpahhlbgomcnjaaStrings
import Derived.Lib.Bytealg
import Derived.Test.YtpahhlbgomcnjaaSort
namespace Go.Sal
set_option linter.unusedVariables false
def digLt (a b : Dig) : Bool := Op.bytesLess a.list b.list
theorem digLt_irrefl (a : Dig) : digLt a a = false := bytesLess_irrefl _
theorem digLt_trans {a b c : Dig} (h1 : digLt a b = true) (h2 : digLt b c = true) : digLt a c = true := bytesLess_trans h1 h2
theorem digLt_total {a b : Dig} (h1 : digLt a b = false) (h2 : digLt b a = false) : a = b := Dig.list_inj (bytesLess_total h1 h2)

theorem dig_cell {d : Dig} {i : Int} {u : UInt8} (h : d.list[i.toNat]? = some u) : ((encDig d).toArray)[0 + i.toNat * 1]? = some (.int .u8 (u.toNat : Int)) := by
  rw [Nat.zero_add, Nat.mul_one, List.getElem?_toArray, encDig_list, List.getElem?_map, h]
  rfl

theorem bytesLess_at : ∀ {a b : List UInt8} {i : Nat} {u v : UInt8}, a.take i = b.take i → a[i]? = some u → b[i]? = some v → u ≠ v → Op.bytesLess a b = decide (u < v)
  | [], _, _, _, _, _, h, _, _ => by simp at h
  | _ :: _, [], _, _, _, _, _, h, _ => by simp at h
  | x :: a, y :: b, 0, u, v, _, hu, hv, hne => by
    simp at hu hv
    subst hu; subst hv
    simp [Op.bytesLess, hne]
  | x :: a, y :: b, i + 1, u, v, ht, hu, hv, hne => by
    simp only [List.take_succ_cons, List.cons.injEq] at ht
    obtain ⟨rfl, ht⟩ := ht
    have := bytesLess_at ht (by simpa using hu) (by simpa using hv) hne
    simp only [Op.bytesLess, this]
    have hx : ¬ x < x := by exact UInt8.lt_irrefl x
    simp [hx]
theorem digLt_at {a b : Dig} {i : Nat} {u v : UInt8} (ht : a.list.take i = b.list.take i) (hu : a.list[i]? = some u) (hv : b.list[i]? = some v) (hne : (u.toNat : Int) ≠ (v.toNat : Int)) : digLt a b = decide ((u.toNat : Int) < (v.toNat : Int)) := by
  unfold digLt
  rw [bytesLess_at ht hu hv (fun e => hne (by rw [e]))]
  have : (u < v) ↔ ((u.toNat : Int) < (v.toNat : Int)) := by
    rw [UInt8.lt_iff_toNat_lt]; omega
  simp only [this]
theorem dig_take_step {a b : Dig} {i : Int} {u v : UInt8} (h0 : 0 ≤ i) (ht : a.list.take i.toNat = b.list.take i.toNat) (hu : a.list[i.toNat]? = some u) (hv : b.list[i.toNat]? = some v) (he : ¬ (u.toNat : Int) ≠ (v.toNat : Int)) : a.list.take (i + 1).toNat = b.list.take (i + 1).toNat := by
  have : u = v := UInt8.toNat_inj.1 (by omega)
  subst this
  rw [show (i + 1).toNat = i.toNat + 1 by omega, List.take_add_one, List.take_add_one, ht, hu, hv]
theorem digLt_same {a b : Dig} {i : Int} (ht : a.list.take i.toNat = b.list.take i.toNat) (hi : 32 ≤ i) : digLt a b = false := by
  have ha : a.list.take i.toNat = a.list := List.take_of_length_le (by rw [Dig.list_length]; omega)
  have hb : b.list.take i.toNat = b.list := List.take_of_length_le (by rw [Dig.list_length]; omega)
  rw [ha, hb] at ht
  rw [Dig.list_inj ht]
  exact digLt_irrefl b

/-- What comparing two digests gives. -/
def cmpDig (a b : Dig) : Int := Lib.compareBytes a.list b.list
theorem cmpB_lt : ∀ (a b : List UInt8), (Lib.compareBytes a b < 0) = (Op.bytesLess a b = true)
  | [], [] => by simp [Lib.compareBytes, Op.bytesLess]
  | [], _ :: _ => by simp [Lib.compareBytes, Op.bytesLess]
  | _ :: _, [] => by simp [Lib.compareBytes, Op.bytesLess]
  | x :: a, y :: b => by
    have ih := cmpB_lt a b
    unfold Lib.compareBytes
    simp only [Op.bytesLess]
    by_cases hxy : x = y
    · subst hxy
      have hlt : ¬ x < x := UInt8.lt_irrefl x
      simp [hlt, ih]
    · by_cases hlt : x < y
      · simp [hlt]
      · have h2 : y < x := UInt8.lt_of_le_of_ne (UInt8.not_lt.1 hlt) (Ne.symm hxy)
        simp [hlt, h2, hxy]
theorem cmpB_eq : ∀ (a b : List UInt8), (Lib.compareBytes a b = 0) = (a = b)
  | [], [] => by simp [Lib.compareBytes]
  | [], _ :: _ => by simp [Lib.compareBytes]
  | _ :: _, [] => by simp [Lib.compareBytes]
  | x :: a, y :: b => by
    have ih := cmpB_eq a b
    unfold Lib.compareBytes
    by_cases hxy : x = y
    · subst hxy
      have hlt : ¬ x < x := UInt8.lt_irrefl x
      simp [hlt, ih]
    · by_cases hlt : x < y
      · simp [hlt, hxy]
      · have h2 : y < x := UInt8.lt_of_le_of_ne (UInt8.not_lt.1 hlt) (Ne.symm hxy)
        simp [hlt, h2, hxy]
theorem cmpDig_lt (a b : Dig) : (cmpDig a b < 0) = (digLt a b = true) := cmpB_lt _ _
theorem cmpDig_eq (a b : Dig) : (cmpDig a b = 0) = (a = b) := by
  unfold cmpDig
  rw [cmpB_eq]
  exact propext ⟨Dig.list_inj, fun h => by rw [h]⟩
open Go.Shelf Go.RowKit Go.Lib Go.Sort Go.Proofs in
theorem ltDig (a b : Dig) : ltOf cmpDig a b = digLt a b := by
  unfold ltOf
  cases h : digLt a b
  · simp [cmpDig_lt, h]
  · simp [cmpDig_lt, h]
open Go.Shelf Go.RowKit Go.Lib Go.Sort Go.Proofs in
theorem swoDig : SWO (ltOf cmpDig) where
  irrefl x := by rw [ltDig]; exact digLt_irrefl _
  trans x y z h1 h2 := by rw [ltDig] at *; exact digLt_trans h1 h2
  ntrans x y z h1 h2 := by
    rw [ltDig] at *
    cases h : digLt x z
    · rfl
    · cases h3 : digLt y x
      · rw [digLt_total h1 h3] at h; rw [h] at h2; cases h2
      · have := digLt_trans h3 h; rw [this] at h2; cases h2
instance : Inhabited Dig := ⟨Dig.zero⟩
theorem cmpDig_ge (a b : Dig) : (0 ≤ cmpDig a b) = (digLt a b = false) := by
  have h := cmpDig_lt a b
  cases hd : digLt a b
  · simp only [hd, Bool.false_eq_true, eq_iff_iff, iff_false, Int.not_lt] at h
    simp [h]
  · simp only [hd, eq_iff_iff, iff_true] at h
    simp; omega
end Go.Sal
