/- Comparing digests at this dump: bytes.Compare, the program's compare, slices.SortFunc by it. (Printed by cmp_gen.py.) -/
import Derived.Test.YtpahhlbgomcnjaaDraw
import Derived.Test.YtpahhlbgomcnjaaDSet
import Derived.Test.YtpahhlbgomcnjaaDigOrd
import Derived.Test.YtpahhlbgomcnjaaSort
import Derived.Test.YtpahhlbgomcnjaaSShelf
import Derived.WalkKit
import Derived.ProofKit
import Derived.Lib.Bytealg
import Derived.Lib.BytesEntry
import Derived.Lib.Walk
import Derived.RegionTactic
import Derived.RegionCalls
import Derived.Test.YtpahhlbgomcnjaaProg
namespace Go.Proofs
open Go.Shelf Go.RowKit Go.Lib Go.Sort Go.Sal
set_option linter.unusedVariables false
set_option linter.unusedSimpArgs false

theorem run_loadRow {P : Program} {b off : Nat} {l : List UInt8} {w : World} (h : ∀ j u, l[j]? = some u → w.cell? ⟨b, off + j, none⟩ = some (u8 u)) : (Extern.Bytes.loadBytes ⟨b, off, none⟩ l.length .empty).run P w = .ok ⟨l.toArray⟩ w := by
  have hx := run_loadBytesX (P := P) w (l.map fun u => (u.toNat : Int)) ⟨b, off, none⟩ .empty (fun j y hj => by
    rw [addr_add]
    rw [List.getElem?_map] at hj
    cases hu : l[j]? with
    | none => rw [hu] at hj; cases hj
    | some u =>
      rw [hu] at hj
      simp only [Option.map_some, Option.some.injEq] at hj
      subst hj
      exact h j u hu)
  rw [List.length_map] at hx
  rw [hx]
  congr 1
  apply ByteArray.ext
  simp [Lib.bytesOf, ByteArray.empty, ByteArray.emptyWithCapacity, Function.comp_def]
  try rfl
theorem run_loadDig {P : Program} {b : Nat} {x : Dig} {T : TypeId} {w : World} (h : w.heap[b]? = some (.cells (encDig x).toArray T (0,0))) : (Extern.Bytes.loadBytes ⟨b, 0, none⟩ 32 .empty).run P w = .ok ⟨x.list.toArray⟩ w :=
  run_loadRow (P := P) (b := b) (off := 0) (l := x.list) (w := w) (fun j u hj => by
    unfold World.cell?
    simp only [h]
    rw [encDig_list, Nat.zero_add]
    simp [hj])

set_option maxHeartbeats 2000000 in
set_option maxRecDepth 100000 in
theorem Try.bytesCompare (b b' : Nat) (x y : Dig) (T T' : TypeId) (w : World) (h : w.heap[b]? = some (.cells (encDig x).toArray T (0,0))) (h' : w.heap[b']? = some (.cells (encDig y).toArray T' (0,0))) :
    Calls Try.prog 25 #[.slice (some ⟨b, 0, none⟩) 32 32, .slice (some ⟨b', 0, none⟩) 32 32] w fun e w' => e = .returned (.int .i64 (cmpDig x y)) ∧ w' = w := by
  go_enter Try.func25, Try.ntmps25
  go_wp2
  rw [run_callFunc_extern Try.func46 (by kernel_rfl) (by kernel_rfl) (by kernel_rfl) (e := Extern.BytealgCompare.compare) (by kernel_rfl)]
  have hc : (Extern.BytealgCompare.compare #[.slice (some ⟨b, 0, none⟩) 32 32, .slice (some ⟨b', 0, none⟩) 32 32]).run Try.prog w = .ok (.int .i64 (cmpDig x y)) w := by
    change Sem.run Try.prog (do pure (goInt (Extern.BytealgCompare.cmp (← Extern.Bytes.bytesOf (.slice (some ⟨b, 0, none⟩) 32 32)) (← Extern.Bytes.bytesOf (.slice (some ⟨b', 0, none⟩) 32 32))))) w = _
    simp only [Extern.Bytes.bytesOf, Sem.run_bind, run_loadDig h, run_loadDig h', Sem.run_pure, Result.andThen]
    rw [cmp_eq]
    rfl
  rw [hc]
  simp only [Result.andThen]
  rw [Oper.upon_value]
  go_wp2
  go_ret
  exact ⟨rfl, rfl⟩

set_option maxHeartbeats 2000000 in
set_option maxRecDepth 100000 in
theorem Try.compares (x y : Dig) (w : World) : Calls Try.prog 17 #[.agg (encDig x).toArray, .agg (encDig y).toArray] w fun e w' => e = .returned (.int .i64 (cmpDig x y)) ∧ ∃ q os', w' = grow (w.drewN q) os' := by
  go_enter Try.func17, Try.ntmps17
  go_wp2
  refine wp_region_any (by kernel_rfl) ?_
  change wpAny _ _ _ _ _ _ _ (World.drew _)
  refine wpAny_take (i := 0) (v := .slice (some ⟨w.heap.size, 0, none⟩) 32 32) rfl (by kernel_rfl) (by kernel_rfl) (by kernel_rfl) (fun _ _ _ h => h) (Or.inl ⟨by rfl, fun w => by go_simp⟩) ?_
  refine wpAny_take (i := 1) (v := .slice (some ⟨w.heap.size + 1, 0, none⟩) 32 32) rfl (by kernel_rfl) (by kernel_rfl) (by kernel_rfl) (fun _ _ _ h => h) (Or.inl ⟨by rfl, fun w => by go_simp⟩) ?_
  refine wpAny_ready (rs := [2]) (by kernel_rfl) (by simp) ?_
  refine AllReady.cons rfl (fun K hK => ?_) ?_
  · go_simp
    go_at_call 25
    refine (Try.bytesCompare _ _ x y 30 30 _ ?_ ?_).mono ?_
    · show ((w.heap.push (.cells (encDig x).toArray 30)).push (.cells (encDig y).toArray 30))[w.heap.size]? = _
      rw [Array.getElem?_push, if_neg (by simp), Array.getElem?_push, if_pos rfl]
    · show ((w.heap.push (.cells (encDig x).toArray 30)).push (.cells (encDig y).toArray 30))[w.heap.size + 1]? = _
      rw [Array.getElem?_push, if_pos (by simp)]
    · rintro e w' ⟨rfl, rfl⟩
      refine hK _ _ ?_
      clear hK K
      refine wpAny_take (i := 3) (v := .int .i64 (cmpDig x y)) rfl (by kernel_rfl) (by kernel_rfl) (by kernel_rfl) (fun _ _ _ h => h) (Or.inl ⟨by rfl, fun w => by go_simp⟩) ?_
      refine wpAny_done (by kernel_rfl) ?_ _
      go_wp2
      go_ret
      exact ⟨rfl, 1, _, by rw [alloc_eq_grow, alloc_eq_grow, grow_grow]; rfl⟩
  · exact AllReady.nil

theorem grow_holds {E : Env} {H : Heap} {w : World} {q : Nat} {os : Array Obj} (h : Go.Sal.Holds E H w) : Go.Sal.Holds E H (grow (w.drewN q) os) := by
  refine ⟨h.os, h.out, h.nd, fun b o hm => ?_⟩
  have hb := h.mem b o hm
  have hlt := (Array.getElem?_eq_some_iff.1 hb).1
  show (w.heap ++ os)[b]? = some o
  rw [Array.getElem?_append_left hlt]
  exact hb

/-- compare, as a contract. -/
theorem compare_c {E : Env} {H : Heap} {x y : Dig} : Go.Sal.Fn Try.prog 17 [.agg (encDig x).toArray, .agg (encDig y).toArray] E H (fun v H2 => v = .int .i64 (cmpDig x y) ∧ H2 = H) := fun w hH =>
  (Try.compares x y w).mono fun e w' ⟨he, q, os, hw⟩ => ⟨_, _, he, ⟨rfl, rfl⟩, by rw [hw]; exact grow_holds hH⟩
theorem Try.cmpLays (blk off size : Nat) (w : World) : CmpLays Try.prog 17 #[] encDig 32 cmpDig blk off size w :=
  fun _ _ _ _ x y => Try.compares x y _
theorem Try.enterCmp : ∀ args w, (callFunc 17 args).run Try.prog w = .ok (.enter 17 args) w := enters_of Try.func17 (by kernel_rfl) rfl
theorem encDig_one (x : Dig) : ∀ v ∈ encDig x, v.oneCell' = true := fun v hv => by
  rw [encDig_list] at hv
  obtain ⟨u, _, rfl⟩ := List.mem_map.1 hv
  rfl
/-- slices.SortFunc over digests. -/
theorem sortDigs_c {E : Env} {H : Heap} {v : Value} {l : List Dig} {X : Heap} (ho : Own 32 30 v (l.map encDig) X) (hlen : l.length < 4611686018427387904) :
    Go.Sal.Fn Try.prog 16 [v, .func (.func 17) #[] #[]] E (X ++ H) (fun u H2 => u = .tuple #[] ∧ ∃ (l' : List Dig) (X' : Heap), l'.Perm l ∧ l'.Pairwise (fun x y => digLt y x = false) ∧ Own 32 30 v (l'.map encDig) X' ∧ H2 = X' ++ H) := by
  have h := fn_sort (E := E) (H := H) Try.sortDigs Try.isAgg30 Try.sizeOf30 (enc := encDig) (fun _ => rfl) (fun x => encDig_one x) swoDig Try.enterCmp Try.cmpLays ho hlen
  change Go.Sal.Fn Try.prog 16 _ _ _ _ at h
  refine h.mono ?_
  rintro u H2 ⟨hu, l', X', hp, hs, hO, hH⟩
  exact ⟨hu, l', X', hp, hs.imp (fun {a b} h => by rw [← ltDig]; exact h), hO, hH⟩
/-- Digests as keys of a map. -/
theorem keyDig (x : Dig) : Try.prog.keyLits 2 30 (encDig x) = some (digLits x) := keyLits_dig Try.underlying30 Try.underlying5 (by kernel_rfl) (by kernel_rfl) x 0
def kDig (x : Dig) : Value := .agg (encDig x).toArray
theorem eqDig (x y : Dig) (w : World) : (Op.equal 30 (kDig x) (kDig y)).run Try.prog w = .ok (decide (x = y)) w :=
  run_equal_lits (m := 2) (by kernel_rfl) (by decide) (by kernel_rfl) (by kernel_rfl) (D := 2) (D' := 2) (by simpa [Value.cells, kDig] using keyDig x) (by simpa [Value.cells, kDig] using keyDig y) digLits_inj w
theorem ckDig (x : Dig) (w : World) (e : Bool) : (Instr.checkKey e 10000 30 (kDig x)).run Try.prog w = .ok () w :=
  run_checkKey_deep e 9998 2 30 (by kernel_rfl) w 2 (kDig x) _ (by kernel_rfl) (by simpa [Value.cells, kDig] using keyDig x)
theorem bitsDig (x : Dig) : Instr.sameBits 10000 (kDig x) (kDig x) = true := by
  have h : ∀ (l : List UInt8) (n : Nat), ((l.map u8).zip (l.map u8)).all (fun p => Instr.sameBits (n + 1) p.1 p.2) = true := fun l n => by
    induction l with
    | nil => rfl
    | cons a l ih => simp [u8, Instr.sameBits] at ih ⊢; exact ih
  have := h x.list 9998
  unfold kDig
  rw [encDig_list]
  unfold Instr.sameBits
  simpa using this
end Go.Proofs
