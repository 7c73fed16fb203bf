/- The paths p0, p1, ..: each is a path, no two are one; a namespace of so many files. -/
import Derived.Test.YtbiailfegepeaaaSim
namespace Go.Sal

def numGo (i : Nat) (s : List UInt8) : List UInt8 := if h : i > 9 then numGo (i / 10) (UInt8.ofNat (48 + i % 10) :: s) else UInt8.ofNat (48 + i) :: s
termination_by i
def numS (i : Nat) : ByteArray := ⟨(numGo i []).toArray⟩
def pathN (i : Nat) : ByteArray := ⟨#[112]⟩ ++ numS i

def valB : List UInt8 → Nat → Nat
  | [], a => a
  | b :: r, a => valB r (a * 10 + (b.toNat - 48))
theorem valB_len : ∀ (l : List UInt8) (a : Nat), valB l a = a * 10 ^ l.length + valB l 0
  | [], a => by simp [valB]
  | b :: r, a => by
    simp only [valB, List.length_cons]
    rw [valB_len r (a * 10 + (b.toNat - 48)), valB_len r (0 * 10 + (b.toNat - 48)), Nat.pow_succ]
    rw [Nat.add_mul, Nat.zero_mul, Nat.zero_add, Nat.mul_assoc, Nat.mul_comm 10, Nat.add_assoc]
theorem ofNat_digit {d : Nat} (h : d ≤ 9) : (UInt8.ofNat (48 + d)).toNat - 48 = d := by
  rw [UInt8.toNat_ofNat']
  omega
theorem numGo_val (i : Nat) : ∀ s, valB (numGo i s) 0 = i * 10 ^ s.length + valB s 0 := by
  induction i using Nat.strongRecOn with
  | _ i ih =>
    intro s
    rw [numGo]
    split
    · rename_i h
      rw [ih (i / 10) (by omega), List.length_cons, Nat.pow_succ]
      simp only [valB, Nat.zero_mul, Nat.zero_add]
      rw [ofNat_digit (by omega), valB_len s (i % 10)]
      have : i = i / 10 * 10 + i % 10 := by omega
      have e : i / 10 * (10 ^ s.length * 10) + (i % 10 * 10 ^ s.length + valB s 0) = (i / 10 * 10 + i % 10) * 10 ^ s.length + valB s 0 := by
        rw [Nat.add_mul, Nat.mul_comm (10 ^ s.length) 10, ← Nat.mul_assoc, Nat.add_assoc]
      rw [e, ← this]
    · rename_i h
      simp only [valB, Nat.zero_mul, Nat.zero_add]
      rw [ofNat_digit (by omega), valB_len s i]
theorem numGo_digits (i : Nat) : ∀ s, (∀ b ∈ s, 48 ≤ b.toNat ∧ b.toNat ≤ 57) → ∀ b ∈ numGo i s, 48 ≤ b.toNat ∧ b.toNat ≤ 57 := by
  induction i using Nat.strongRecOn with
  | _ i ih =>
    intro s hs
    rw [numGo]
    have hd : ∀ d, d ≤ 9 → 48 ≤ (UInt8.ofNat (48 + d)).toNat ∧ (UInt8.ofNat (48 + d)).toNat ≤ 57 := fun d hd => by rw [UInt8.toNat_ofNat']; omega
    split
    · exact ih (i / 10) (by omega) _ (fun b hb => by
        rcases List.mem_cons.1 hb with rfl | hb
        · exact hd _ (by omega)
        · exact hs b hb)
    · intro b hb
      rcases List.mem_cons.1 hb with rfl | hb
      · exact hd _ (by omega)
      · exact hs b hb
theorem numGo_len (i : Nat) : ∀ s, s.length + 1 ≤ (numGo i s).length ∧ (numGo i s).length ≤ s.length + i + 1 := by
  induction i using Nat.strongRecOn with
  | _ i ih =>
    intro s
    rw [numGo]
    split
    · have := ih (i / 10) (by omega) (UInt8.ofNat (48 + i % 10) :: s)
      simp only [List.length_cons] at this
      omega
    · simp only [List.length_cons]; omega
theorem numS_size (i : Nat) : 1 ≤ (numS i).size ∧ (numS i).size ≤ i + 1 := by
  have := numGo_len i []
  simpa [numS, ByteArray.size] using this
theorem numS_inj {i j : Nat} (h : numS i = numS j) : i = j := by
  have h1 := congrArg (fun b : ByteArray => valB b.data.toList 0) h
  simp only [numS] at h1
  rw [numGo_val, numGo_val] at h1
  simpa [valB] using h1
/-- Few digits. -/
theorem numGo_few (i : Nat) : ∀ s, i < 10000 → (numGo i s).length ≤ s.length + 4 := by
  intro s hi
  rw [numGo]; split
  · rw [numGo]; split
    · rw [numGo]; split
      · rw [numGo]; split
        · omega
        · simp only [List.length_cons]; omega
      · simp only [List.length_cons]; omega
    · simp only [List.length_cons]; omega
  · simp only [List.length_cons]; omega

theorem cat_list (a b : ByteArray) : (a ++ b).data.toList = a.data.toList ++ b.data.toList := by simp
theorem pathN_list (i : Nat) : (pathN i).data.toList = 112 :: numGo i [] := by
  unfold pathN
  rw [cat_list]; rfl
theorem pathN_inj {i j : Nat} (h : pathN i = pathN j) : i = j := by
  have h1 := congrArg (fun b : ByteArray => b.data.toList) h
  simp only [pathN_list, List.cons.injEq, true_and] at h1
  exact numS_inj (by unfold numS; rw [h1])
set_option maxRecDepth 100000 in
theorem pathN_ok {i : Nat} (h : i < 10000) : isPath (pathN i) = true := by
  have hs : (pathN i).size = (numGo i []).length + 1 := by
    show (pathN i).data.size = _
    rw [← Array.length_toList, pathN_list, List.length_cons]
  have hl := numGo_few i [] h
  simp only [List.length_nil, Nat.zero_add] at hl
  unfold isPath
  simp only [Bool.and_eq_true, decide_eq_true_eq]
  refine ⟨⟨by omega, by omega⟩, ?_⟩
  rw [pathN_list, List.all_eq_true]
  intro b hb
  rcases List.mem_cons.1 hb with rfl | hb
  · decide
  · have := numGo_digits i [] (by simp) b hb
    simp only [okByte, Bool.and_eq_true, decide_eq_true_eq]
    omega

/-- The record that lays file number i. -/
def manyR (i : Int) (p : ByteArray) : Rec := ⟨i, 1, Dig.zero, 2, 0, p, none, 0, 0⟩
theorem manyR_ok {i : Int} {p : ByteArray} (h : 1 ≤ i) (h' : i ≤ 1073741824) (hp : isPath p = true) : recOk (manyR i p) [] = true := by
  simp [recOk, fits, manyR, hp, recSize, sizeGo, h, h']
def manyL (i : Nat) : LMap := (List.range i).map fun j => (pathN j, ⟨0, (j : Int) + 1, []⟩)
theorem manyL_get {i : Nat} {p : ByteArray} (h : ∀ j, j < i → pathN j ≠ p) : mget (manyL i) p = none := by
  rw [mget_none]
  intro q hq
  obtain ⟨j, hj, rfl⟩ := List.mem_map.1 hq
  exact h j (List.mem_range.1 hj)
set_option maxRecDepth 100000 in
theorem many_may {m : LMap} {i : Int} {n : Nat} (hm : m = manyL n) (hi : i = n) (hn : n < 1024) : mayL m (manyR (i + 1) (pathN n)) [] = 0 := by
  subst hm; subst hi
  unfold mayL
  rw [if_pos (manyR_ok (by omega) (by omega) (pathN_ok (by omega))), if_neg (by simp [manyR]), if_neg]
  rintro ⟨_, _, h⟩
  simp [manyL] at h
  omega
set_option maxRecDepth 100000 in
theorem many_step {m : LMap} {i : Int} {n : Nat} (hm : m = manyL n) (hi : i = n) (hn : n < 1024) : applyL m (manyR (i + 1) (pathN n)) [] = manyL (n + 1) := by
  have h0 := many_may hm hi hn
  rw [apply_put (z := 0) (by omega) rfl rfl]
  subst hm; subst hi
  rw [mset_new (manyL_get fun j hj e => by have := pathN_inj e; omega)]
  unfold manyL
  rw [List.range_succ, List.map_append]
  rfl
def pMore : ByteArray := ⟨#[109, 111, 114, 101]⟩
def p5 : ByteArray := ⟨#[112, 53]⟩
theorem p5_eq : p5 = pathN 5 := by
  have : (pathN 5).data.toList = [112, 53] := by
    rw [pathN_list, numGo]; rfl
  have h2 : (pathN 5).data = #[112, 53] := by
    apply Array.ext'; rw [this]
  unfold p5
  exact (ByteArray.ext h2).symm
set_option maxRecDepth 100000 in
theorem many_more {m : LMap} (hm : m = manyL 1024) : mayL m (manyR 1 pMore) [] = 3 := by
  subst hm
  unfold mayL
  have hg : mget (manyL 1024) pMore = none := manyL_get fun j _ e => by
    have h1 := congrArg (fun b : ByteArray => b.data.toList.head?) e
    simp only [pathN_list] at h1
    have h2 : (112 : UInt8) = 109 := by injection h1
    exact absurd h2 (by decide)
  rw [if_pos (manyR_ok (by omega) (by omega) (by decide)), if_neg (by simp [manyR]), if_pos ⟨rfl, by show (mget (manyL 1024) pMore).isSome = false; rw [hg]; rfl, by simp [manyL]⟩]
theorem many_more2 {m : LMap} (hm : m = manyL 1024) : applyL m (manyR 1 pMore) [] = manyL 1024 := by
  rw [apply_bad (by rw [many_more hm]; decide)]; exact hm
theorem manyL_nodup (n : Nat) : ((manyL n).map (·.1)).Nodup := by
  unfold manyL
  rw [List.map_map]
  rw [List.nodup_iff_pairwise_ne, List.pairwise_map]
  exact (List.nodup_iff_pairwise_ne.1 (List.nodup_range (n := n))).imp fun h e => h (pathN_inj e)
set_option maxRecDepth 100000 in
/-- What is there behind the file that is laid anew. -/
theorem many_p5 {m : LMap} (hm : m = manyL 1024) : mayL m (manyR 7 p5) [] = 0 ∧ mget (applyL m (manyR 7 p5) []) p5 = some ⟨0, 7, []⟩ ∧ (applyL m (manyR 7 p5) []).length = 1024 := by
  subst hm
  have hg : mget (manyL 1024) p5 = some ⟨0, 6, []⟩ := by
    rw [mget_mem (manyL_nodup _), p5_eq]
    exact List.mem_map.2 ⟨5, List.mem_range.2 (by omega), rfl⟩
  have h0 : mayL (manyL 1024) (manyR 7 p5) [] = 0 := by
    unfold mayL
    rw [if_pos (manyR_ok (by omega) (by omega) (by rw [p5_eq]; exact pathN_ok (by omega))), if_neg (by simp [manyR]), if_neg]
    rintro ⟨_, h, _⟩
    have h : (mget (manyL 1024) p5).isSome = false := h
    rw [hg] at h; cases h
  refine ⟨h0, ?_, ?_⟩
  · rw [apply_put (z := 0) (by omega) rfl rfl]
    show mget (mset (manyL 1024) p5 ⟨0, 7, []⟩) p5 = _
    rw [mget_mem (keys_mset (manyL_nodup _) _ _)]
    exact (mset_perm (manyL_nodup _) _ _).symm.subset List.mem_cons_self
  · rw [apply_put (z := 0) (by omega) rfl rfl]
    show (mset (manyL 1024) p5 ⟨0, 7, []⟩).length = 1024
    unfold mset
    rw [hg]
    simp [manyL]
theorem many_stat {D : Heap} {m : LMap} {f : File} {e : Int} (hm : mget m p5 = some ⟨0, 7, []⟩) (h : StatP D m p5 f e) : e = 0 ∧ f.seq = 7 := by
  unfold StatP at h
  rw [hm] at h
  exact ⟨h.2, h.1.seq⟩
theorem numGo_step {i : Int} {s t : ByteArray} (h : numGo i.toNat s.data.toList = t.data.toList) (h9 : i > 9) : numGo (i / 10).toNat ((⟨#[UInt8.ofNat (Int.toNat (48 + i % 10))]⟩ : ByteArray) ++ s).data.toList = t.data.toList := by
  rw [← h, cat_list, numGo.eq_1 i.toNat, dif_pos (by omega)]
  have e1 : (i / 10).toNat = i.toNat / 10 := by omega
  have e2 : Int.toNat (48 + i % 10) = 48 + i.toNat % 10 := by omega
  rw [e1, e2]
  rfl
theorem numGo_last {i : Int} {s t : ByteArray} (h : numGo i.toNat s.data.toList = t.data.toList) (h0 : 0 ≤ i) (h9 : ¬ i > 9) : (⟨#[UInt8.ofNat (Int.toNat (48 + i))]⟩ : ByteArray) ++ s = t := by
  apply ByteArray.ext
  apply Array.ext'
  rw [cat_list, ← h, numGo.eq_1 i.toNat, dif_neg (by omega)]
  have e2 : Int.toNat (48 + i) = 48 + i.toNat := by omega
  rw [e2]
  rfl
end Go.Sal
