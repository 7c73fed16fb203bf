/- A region that draws its order and at its end writes what it has read: what is known holds as long as operation k has not come up. -/
import Derived.Test.YtpahhlbgomcnjaaArrays
namespace Go.Sal
set_option linter.unusedVariables false
variable {P : Program} {E : Env} {N : Nat} {L L' : List (Nat × Value)} {H H' : Heap} {K : Act → World → Prop} {Q : Exit → Act → World → Prop}
variable {ops : Array Oper} {o : Oper} {d : Nat}

def AnyK (P : Program) (ops : Array Oper) (Q : Exit → Act → World → Prop) (S : World → Prop) (k : Nat) : Nat → Array Bool → Act → World → Prop
  | 0, listed, a, w => Region.ready .any ops listed = [] ∧ Q .normal a w
  | fuel + 1, listed, a, w => (Region.ready .any ops listed = [] → Q .normal a w) ∧
    ∀ i ∈ Region.ready .any ops listed, wpOp P ops Q i (fun a' w' => (i ≠ k → S w') ∧ AnyK P ops Q S k fuel (listed.setIfInBounds i true) a' w') a w

theorem AnyK.any {S : World → Prop} {k : Nat} : ∀ (fuel : Nat) (listed : Array Bool) (a : Act) (w : World), AnyK P ops Q S k fuel listed a w → wpAny P .any ops Q fuel listed a w
  | 0, _, _, _, h => h
  | fuel + 1, _, _, _, h => ⟨h.1, fun i hi => wpOp_mono (fun a' w' h' => AnyK.any fuel _ a' w' h'.2) (h.2 i hi)⟩

/-- Number i, for which number k waits, may be taken first. -/
theorem AnyK.first {S : World → Prop} {k i m : Nat} {oi ok om : Oper} {v : Value} (hi : ops[i]? = some oi) (hk : ops[k]? = some ok) (hm : ops[m]? = some om) (hwait : ∃ e ∈ om.after, Region.binds .any e = true ∧ e.on = i) (hkm : m = k ∨ ∃ e ∈ ok.after, Region.binds .any e = true ∧ e.on = m)
    (hsel : ∀ (j : Nat) (o : Oper) cs b, ops[j]? = some o → o.op ≠ .select cs b) (hQ : ∀ c a w, Q (.panic c) (a.put oi.dst v) w → Q (.panic c) a w) :
    ∀ (fuel : Nat) (listed : Array Bool) (a : Act) (w : World),
      (∀ j oj, ops[j]? = some oj → j ≠ i → listed.getD j true = false → (∀ e ∈ oj.after, Region.binds .any e = true → e.on ≠ i) → oi.apart ops oj = true) →
      i ∈ Region.ready .any ops listed → YieldsIf P ops S oi v a → S w → i ≠ k → listed.getD m true = false →
      AnyK P ops Q S k fuel (listed.setIfInBounds i true) (a.put oi.dst v) w → AnyK P ops Q S k (fuel + 1) listed a w := by
  intro fuel
  induction fuel with
  | zero =>
    intro listed a w _ hr hy hS hik hun T
    refine ⟨fun h => (by rw [h] at hr; cases hr), fun j hj => ?_⟩
    by_cases hji : j = i
    · subst hji; exact hy.wpOp hi hS ⟨fun _ => hS, T⟩
    · have hm := ready_mono hj hji
      rw [T.1] at hm; cases hm
  | succ fuel ih =>
    intro listed a w hfree hr hy hS hik hun T
    refine ⟨fun h => (by rw [h] at hr; cases hr), fun j hj => ?_⟩
    by_cases hji : j = i
    · subst hji; exact hy.wpOp hi hS ⟨fun _ => hS, T⟩
    · have hT := T.2 j (ready_mono hj hji)
      obtain ⟨hjun, oj, hoj, hall⟩ := mem_ready.1 hj
      have hnot : ∀ e ∈ oj.after, Region.binds .any e = true → e.on ≠ i := fun e he hb heq => by
        have h1 := hall e he hb
        have h0 := (mem_ready.1 hr).1
        rw [heq] at h1
        rcases Nat.lt_or_ge i listed.size with h' | h'
        · simp [h'] at h0 h1; rw [h0] at h1; cases h1
        · simp [Array.getElem?_eq_none h'] at h1
      have hjm : j ≠ m := fun e => by
        subst e
        rw [hm] at hoj
        injection hoj with hoj
        subst hoj
        obtain ⟨e, he, hb, hon⟩ := hwait
        exact hnot e he hb hon
      have hjk : j ≠ k := fun e => by
        rcases hkm with h | ⟨q, hq, hb, hon⟩
        · exact hjm (e.trans h.symm)
        · subst e
          rw [hk] at hoj
          injection hoj with hoj
          subst hoj
          have h1 := hall q hq hb
          rw [hon] at h1
          rcases Nat.lt_or_ge m listed.size with h' | h'
          · simp [h'] at hun h1; rw [hun] at h1; cases h1
          · simp [Array.getElem?_eq_none h'] at h1
      have h2 := wpOp_putIf hoj (hfree j oj hoj hji hjun hnot) (fun cs b => hsel i oi cs b hi) (fun cs b => hsel j oj cs b hoj) hQ hy hT
      refine wpOp_mono (fun a' w' h3 => ⟨fun _ => h3.2.1 hjk, ih (listed.setIfInBounds j true) a' w' (fun q oq hq hqi hun hno => ?_) (ready_mono hr (Ne.symm hji)) h3.1 (h3.2.1 hjk) hik (by rw [getD_set_ne true hjm]; exact hun) ?_⟩) h2
      · refine hfree q oq hq hqi ?_ hno
        by_cases hjq : j = q
        · subst hjq; exact hjun
        · rw [getD_set_ne true hjq] at hun; exact hun
      · rw [Array.setIfInBounds_comm _ _ hji]
        exact h3.2.2

theorem t_drawK {id n k : Nat} {S : Heap} (_ : HS H S) (hn : ops.size = n) (hm : P.follows .mixedOrders = true) (t : Then E N L H (AnyK P ops Q (Holds E S) k n (Array.replicate n false))) : Then E N L H ((Code.region id ops true).wp P Q) := by
  subst hn
  exact fun a w hL hH => wp_region_any hm (AnyK.any _ _ _ _ (t a _ hL hH.drew))

theorem k_take {S : Heap} {fuel : Nat} {listed : Array Bool} {i k : Nat} {ok : Oper} {v : Value} (hi : ops[i]? = some o) (hk : ops[k]? = some ok) (hwait : (ok.after.any fun e => Region.binds .any e && Nat.beq e.on i) = true) (hd : o.dst = some d) (hN : Nat.blt d N = true) (hg : o.guard = none)
    (hs : Region.noSelect ops = true) (hf : Region.free .any ops listed i = true) (hr : (Region.ready .any ops listed).contains i = true) (hik : Nat.beq i k = false) (hun : listed.getD k true = false)
    (hQ : ∀ c a w, Q (.panic c) (a.put o.dst v) w → Q (.panic c) a w) (hS : HS H S) (hv : Run P E N L S o v)
    (t : Then E N ((d, v) :: L) H (AnyK P ops Q (Holds E S) k fuel (listed.setIfInBounds i true))) : Then E N L H (AnyK P ops Q (Holds E S) k (fuel + 1) listed) := fun a w hL hH => by
  have hw : ∃ e ∈ ok.after, Region.binds .any e = true ∧ e.on = i := by
    rw [← Array.any_toList, List.any_eq_true] at hwait
    obtain ⟨e, hm, he⟩ := hwait
    simp only [Bool.and_eq_true] at he
    exact ⟨e, by simpa using hm, he.1, Nat.eq_of_beq_eq_true he.2⟩
  refine AnyK.first hi hk hk hw (.inl rfl) (Region.noSelect_spec hs) hQ fuel listed a w (Region.free_spec hi hf) (by simpa using hr) (hv.yields hL (by simp [Region.wanted, hg])) (hH.hs hS) (Nat.ne_of_beq_eq_false hik) hun ?_
  rw [hd]
  exact t _ _ (hL.put hN _) hH

theorem k_take2 {S : Heap} {fuel : Nat} {listed : Array Bool} {i k m : Nat} {ok om : Oper} {v : Value} (hi : ops[i]? = some o) (hk : ops[k]? = some ok) (hm : ops[m]? = some om) (hwait : (om.after.any fun e => Region.binds .any e && Nat.beq e.on i) = true) (hkm : (ok.after.any fun e => Region.binds .any e && Nat.beq e.on m) = true) (hd : o.dst = some d) (hN : Nat.blt d N = true) (hg : o.guard = none)
    (hs : Region.noSelect ops = true) (hf : Region.free .any ops listed i = true) (hr : (Region.ready .any ops listed).contains i = true) (hik : Nat.beq i k = false) (hun : listed.getD m true = false)
    (hQ : ∀ c a w, Q (.panic c) (a.put o.dst v) w → Q (.panic c) a w) (hS : HS H S) (hv : Run P E N L S o v)
    (t : Then E N ((d, v) :: L) H (AnyK P ops Q (Holds E S) k fuel (listed.setIfInBounds i true))) : Then E N L H (AnyK P ops Q (Holds E S) k (fuel + 1) listed) := fun a w hL hH => by
  have hw : ∀ {oq : Oper} {j : Nat}, (oq.after.any fun e => Region.binds .any e && Nat.beq e.on j) = true → ∃ e ∈ oq.after, Region.binds .any e = true ∧ e.on = j := fun hq => by
    rw [← Array.any_toList, List.any_eq_true] at hq
    obtain ⟨e, hm, he⟩ := hq
    simp only [Bool.and_eq_true] at he
    exact ⟨e, by simpa using hm, he.1, Nat.eq_of_beq_eq_true he.2⟩
  refine AnyK.first hi hk hm (hw hwait) (.inr (hw hkm)) (Region.noSelect_spec hs) hQ fuel listed a w (Region.free_spec hi hf) (by simpa using hr) (hv.yields hL (by simp [Region.wanted, hg])) (hH.hs hS) (Nat.ne_of_beq_eq_false hik) hun ?_
  rw [hd]
  exact t _ _ (hL.put hN _) hH
/-- Number k comes up alone. -/
theorem k_last {S : World → Prop} {fuel : Nat} {listed : Array Bool} {k : Nat} (hi : ops[k]? = some o) (hg : o.guard = none) (hr : Region.ready .any ops listed = [k])
    (t : Then E N L H (fun a w => o.wp P a w (AnyK P ops Q S k fuel (listed.setIfInBounds k true)) Q)) : Then E N L H (AnyK P ops Q S k (fuel + 1) listed) := fun a w hL hH => by
  refine ⟨fun h => (by rw [hr] at h; cases h), fun j hj => ?_⟩
  rw [hr] at hj
  obtain rfl : j = k := by simpa using hj
  refine wpOp_mono (K := AnyK P ops Q S j fuel (listed.setIfInBounds j true)) (fun a' w' h => ⟨fun h2 => absurd rfl h2, h⟩) ?_
  unfold wpOp
  simp only [hi]
  rw [if_pos (by simp [Region.wanted, hg])]
  exact .inl (t a w hL hH)
/-- Another one comes up alone: what is known is shown anew. -/
theorem k_one {S : Heap} {fuel : Nat} {listed : Array Bool} {i k : Nat} (hi : ops[i]? = some o) (hg : o.guard = none) (hr : Region.ready .any ops listed = [i]) (hik : Nat.beq i k = false)
    (t : Then E N L H (fun a w => o.wp P a w (fun a' w' => Holds E S w' ∧ AnyK P ops Q (Holds E S) k fuel (listed.setIfInBounds i true) a' w') Q)) : Then E N L H (AnyK P ops Q (Holds E S) k (fuel + 1) listed) := fun a w hL hH => by
  refine ⟨fun h => (by rw [hr] at h; cases h), fun j hj => ?_⟩
  rw [hr] at hj
  obtain rfl : j = i := by simpa using hj
  refine wpOp_mono (K := fun a' w' => Holds E S w' ∧ AnyK P ops Q (Holds E S) k fuel (listed.setIfInBounds j true) a' w') (fun a' w' h => ⟨fun _ => h.1, h.2⟩) ?_
  unfold wpOp
  simp only [hi]
  rw [if_pos (by simp [Region.wanted, hg])]
  exact .inl (t a w hL hH)
theorem k_keep {S : Heap} {fuel : Nat} {listed : Array Bool} {k : Nat} (hS : HS H S) (t : Then E N L H (AnyK P ops Q (Holds E S) k fuel listed)) : Then E N L H (fun a' w' => Holds E S w' ∧ AnyK P ops Q (Holds E S) k fuel listed a' w') :=
  fun a w hL hH => ⟨hH.hs hS, t a w hL hH⟩
theorem k_done {S : World → Prop} {fuel k : Nat} {listed : Array Bool} (hr : Region.ready .any ops listed = []) (t : Then E N L H (Q .normal)) : Then E N L H (AnyK P ops Q S k fuel listed) := fun a w hL hH => by
  cases fuel with
  | zero => exact ⟨hr, t a w hL hH⟩
  | succ n => exact ⟨fun _ => t a w hL hH, by rw [hr]; simp⟩
theorem a_four {S : Heap} {fuel : Nat} {listed : Array Bool} {i j k l : Nat} (hr : Region.ready .any ops listed = [i, j, k, l])
    (t1 : Then E N L H (wpOp P ops Q i (fun a' w' => Holds E S w' ∧ Any P E ops Q S fuel (listed.setIfInBounds i true) a' w')))
    (t2 : Then E N L H (wpOp P ops Q j (fun a' w' => Holds E S w' ∧ Any P E ops Q S fuel (listed.setIfInBounds j true) a' w')))
    (t3 : Then E N L H (wpOp P ops Q k (fun a' w' => Holds E S w' ∧ Any P E ops Q S fuel (listed.setIfInBounds k true) a' w')))
    (t4 : Then E N L H (wpOp P ops Q l (fun a' w' => Holds E S w' ∧ Any P E ops Q S fuel (listed.setIfInBounds l true) a' w'))) : Then E N L H (Any P E ops Q S (fuel + 1) listed) :=
  a_ops hr (by simp) fun q hq => by
    simp only [List.mem_cons, List.not_mem_nil, or_false] at hq
    rcases hq with rfl | rfl | rfl | rfl
    · exact t1
    · exact t2
    · exact t3
    · exact t4
end Go.Sal
