/- A logic for walks over this model, of no program: what is known of memory and of the slots stands as lists ('Holds', 'Sl'), and each rule turns one goal 'Then' into the next. -/
import Derived.Tactics
import Derived.OrdersHeld
import Derived.RowKit3
import Derived.Laws.AppendOwn
import Derived.KernelRfl
namespace Go.Sal

abbrev Heap := List (Nat × Obj)

structure Env where
  os : Os
  out : Array (Nat × ByteArray)

/-- What is known of memory: these blocks hold these things. -/
structure Holds (E : Env) (H : Heap) (w : World) : Prop where
  os : w.os = E.os
  out : w.output = E.out
  nd : (H.map (·.1)).Nodup
  mem : ∀ b o, (b, o) ∈ H → w.heap[b]? = some o

def lk : List (Nat × Value) → Nat → Option Value
  | [], _ => none
  | (k, v) :: r, t => bif Nat.beq k t then some v else lk r t

/-- What is known of the slots. -/
structure Sl (N : Nat) (L : List (Nat × Value)) (a : Act) : Prop where
  size : a.tmps.size = N
  defers : a.defers = []
  mem : ∀ t v, lk L t = some v → a.tmps[t]? = some v

def evL (L : List (Nat × Value)) : Operand → Option Value
  | .tmp t => lk L t
  | .const v => some v
  | .global g => some (.pointer (some ⟨g, 0, none⟩))
  | .func f => some (.func (.func f) #[] #[])

def evLs (L : List (Nat × Value)) : List Operand → Option (List Value)
  | [] => some []
  | x :: r => match evL L x, evLs L r with
    | some v, some vs => some (v :: vs)
    | _, _ => none

variable {P : Program} {E : Env} {N : Nat} {L L' : List (Nat × Value)} {H H' : Heap} {K K' : Act → World → Prop} {Q : Exit → Act → World → Prop}

theorem Sl.ev {a : Act} (h : Sl N L a) {x : Operand} {v : Value} (hx : evL L x = some v) : a.eval x = v := by
  cases x with
  | tmp t => simp only [evL] at hx; simp [Act.eval, h.mem t v hx]
  | const u => simp only [evL, Option.some.injEq] at hx; simp only [Act.eval]; exact hx
  | global g => simp only [evL, Option.some.injEq] at hx; simp only [Act.eval]; exact hx
  | func f => simp only [evL, Option.some.injEq] at hx; simp only [Act.eval]; exact hx

theorem Sl.evs {a : Act} (h : Sl N L a) : ∀ {xs : List Operand} {vs : List Value}, evLs L xs = some vs → xs.map a.eval = vs
  | [], vs, hx => by simp [evLs] at hx; simp [hx]
  | x :: r, vs, hx => by
    simp only [evLs] at hx
    split at hx
    · rename_i v us h1 h2
      injection hx with hx
      subst hx
      simp [h.ev h1, h.evs h2]
    · cases hx

theorem lk_cons_ne {k t : Nat} {v : Value} (h : k ≠ t) : lk ((k, v) :: L) t = lk L t := by
  have : Nat.beq k t = false := by
    cases hb : Nat.beq k t with
    | false => rfl
    | true => exact absurd (Nat.eq_of_beq_eq_true hb) h
  simp [lk, this]

theorem lk_cons_eq {t : Nat} {v : Value} : lk ((t, v) :: L) t = some v := by
  simp [lk]

theorem Sl.put {a : Act} (h : Sl N L a) {d : Nat} (hd : Nat.blt d N = true) (v : Value) : Sl N ((d, v) :: L) (a.put (some d) v) := by
  have hdN : d < a.tmps.size := by rw [h.size]; simpa using hd
  refine ⟨by simp [Act.put, h.size], by simpa [Act.put] using h.defers, fun t u ht => ?_⟩
  by_cases e : d = t
  · subst e
    rw [lk_cons_eq] at ht
    injection ht with ht
    subst ht
    simp [Act.put, hdN]
  · rw [lk_cons_ne e] at ht
    have := h.mem t u ht
    simpa [Act.put, Array.getElem?_setIfInBounds_ne e] using this

/-- Fewer slots. -/
inductive Sub (L : List (Nat × Value)) : List (Nat × Value) → Prop
  | nil : Sub L []
  | cons {t : Nat} {v : Value} {R : List (Nat × Value)} (h : lk L t = some v) (r : Sub L R) : Sub L ((t, v) :: R)

theorem Sub.at {R : List (Nat × Value)} (h : Sub L R) : ∀ t v, lk R t = some v → lk L t = some v := by
  induction h with
  | nil => intro t v ht; cases ht
  | cons h r ih =>
    intro t v ht
    rename_i t' v' R
    by_cases e : t' = t
    · subst e
      rw [lk_cons_eq] at ht
      injection ht with ht
      subst ht
      exact h
    · rw [lk_cons_ne e] at ht
      exact ih t v ht

theorem Sl.sub {a : Act} (h : Sl N L a) (hs : Sub L L') : Sl N L' a := ⟨h.size, h.defers, fun t v ht => h.mem t v (hs.at t v ht)⟩

theorem Sub.eq {t : Nat} {v u : Value} {R : List (Nat × Value)} (h : lk L t = some v) (e : v = u) (r : Sub L R) : Sub L ((t, u) :: R) := .cons (e ▸ h) r

/-! ### Memory -/

/-- Less memory, or in another order. -/
theorem Holds.sub {w : World} (h : Holds E H w) {R : Heap} (hs : H.Perm (H' ++ R)) : Holds E H' w := by
  refine ⟨h.os, h.out, ?_, fun b o hm => h.mem b o (hs.symm.subset (List.mem_append_left _ hm))⟩
  have h1 := ((hs.map (·.1)).nodup_iff).1 h.nd
  rw [List.map_append] at h1
  exact (List.nodup_append.1 h1).1

theorem Holds.perm {w : World} (h : Holds E H w) (hs : H.Perm H') : Holds E H' w := h.sub (R := []) (by simpa using hs)

theorem Holds.drew {w : World} (h : Holds E H w) : Holds E H w.drew := ⟨h.os, h.out, h.nd, h.mem⟩

theorem Holds.lt {w : World} (h : Holds E H w) {b : Nat} {o : Obj} (hm : (b, o) ∈ H) : b < w.heap.size := by
  have := h.mem b o hm
  exact (Array.getElem?_eq_some_iff.1 this).1

theorem Holds.key_lt {w : World} (h : Holds E H w) {b : Nat} (hm : b ∈ H.map (·.1)) : b < w.heap.size := by
  obtain ⟨⟨b', o⟩, hp, rfl⟩ := List.mem_map.1 hm
  exact h.lt hp

theorem Holds.alloc {w : World} (h : Holds E H w) (o : Obj) : Holds E ((w.heap.size, o) :: H) (w.alloc o) := by
  refine ⟨h.os, h.out, ?_, fun b x hm => ?_⟩
  · simp only [List.map_cons, List.nodup_cons]
    exact ⟨fun hm => by have := h.key_lt hm; omega, h.nd⟩
  · rcases List.mem_cons.1 hm with e | hm
    · injection e with e1 e2
      subst e1; subst e2
      show (w.heap.push _)[w.heap.size]? = _
      simp
    · have hb := h.lt hm
      have := h.mem b x hm
      show (w.heap.push _)[b]? = _
      rw [Array.getElem?_push, if_neg (by omega)]
      exact this

theorem Holds.cell {w : World} (h : Holds E H w) {b : Nat} {cs : Array Value} {T : TypeId} {fr : Nat × Nat} (hm : (b, .cells cs T fr) ∈ H) (off : Nat) :
    w.cell? ⟨b, off, none⟩ = cs[off]? := by
  simp [World.cell?, h.mem _ _ hm]

theorem Holds.frozen {w : World} (h : Holds E H w) {b : Nat} {cs : Array Value} {T : TypeId} {lo hi : Nat} (hm : (b, .cells cs T (lo, hi)) ∈ H) (off : Nat) :
    w.frozen? ⟨b, off, none⟩ = (lo ≤ off && off < hi) := by
  simp [World.frozen?, h.mem _ _ hm]

/-- Block b's thing is replaced. -/
theorem Holds.setBlock {w w' : World} {b : Nat} {o o' : Obj} (h : Holds E ((b, o) :: H) w) (hos : w'.os = w.os) (hout : w'.output = w.output)
    (hb : w'.heap[b]? = some o') (hr : ∀ k, k ≠ b → k < w.heap.size → w'.heap[k]? = w.heap[k]?) : Holds E ((b, o') :: H) w' := by
  have hnd := h.nd
  simp only [List.map_cons, List.nodup_cons] at hnd
  refine ⟨hos.trans h.os, hout.trans h.out, by simpa using hnd, fun k x hm => ?_⟩
  rcases List.mem_cons.1 hm with e | hm
  · injection e with e1 e2
    subst e1; subst e2
    exact hb
  · have hne : k ≠ b := fun e => hnd.1 (List.mem_map.2 ⟨(k, x), hm, e⟩)
    have hm' : (k, x) ∈ (b, o) :: H := List.mem_cons_of_mem _ hm
    rw [hr k hne (h.lt hm')]
    exact h.mem k x hm'

theorem heap_setCell_same (w : World) (b off : Nat) (v : Value) {cs : Array Value} {T : TypeId} {fr : Nat × Nat} (h : w.heap[b]? = some (.cells cs T fr)) :
    (w.setCell ⟨b, off, none⟩ v).heap[b]? = some (.cells (cs.setIfInBounds off v) T fr) := by
  simp [World.setCell, Array.getElem?_modify, h]

theorem heap_setCell_other (w : World) (a : Addr) (v : Value) (k : Nat) (h : k ≠ a.block) : (w.setCell a v).heap[k]? = w.heap[k]? := by
  simp only [World.setCell, Array.getElem?_modify]
  rw [if_neg (by omega)]

theorem Holds.setCell {w : World} {b : Nat} {cs : Array Value} {T : TypeId} {fr : Nat × Nat} (h : Holds E ((b, .cells cs T fr) :: H) w) (off : Nat) (v : Value) :
    Holds E ((b, .cells (cs.setIfInBounds off v) T fr) :: H) (w.setCell ⟨b, off, none⟩ v) :=
  h.setBlock rfl rfl (heap_setCell_same w b off v (h.mem _ _ List.mem_cons_self)) (fun k hk _ => heap_setCell_other w _ v k hk)

/-! ### Where a piece stands in a list -/

/-- H is, but for its order, the piece S and the rest R. -/
inductive Pull (S : Heap) : Heap → Heap → Prop
  | here {R : Heap} : Pull S (S ++ R) R
  | last : Pull S S []
  | tail {q : Nat × Obj} {G R : Heap} (h : Pull S G R) : Pull S (q :: G) (q :: R)
  | app {X G R : Heap} (h : Pull S G R) : Pull S (X ++ G) (X ++ R)
  | left {X Y R : Heap} (h : Pull S X R) : Pull S (X ++ Y) (R ++ Y)

theorem Pull.perm {S R : Heap} (h : Pull S H R) : H.Perm (S ++ R) := by
  induction h with
  | here => exact .refl _
  | last => simp
  | tail h ih => exact (ih.cons _).trans (by simpa using (List.perm_middle (l₁ := S)).symm)
  | app h ih => exact (ih.append_left _).trans (by rw [← List.append_assoc, ← List.append_assoc]; exact List.perm_append_comm.append_right _)
  | left h ih => exact (ih.append_right _).trans (by simp)

inductive PullC (e : Nat × Obj) : Heap → Heap → Prop
  | head {R : Heap} : PullC e (e :: R) R
  | tail {q : Nat × Obj} {G R : Heap} (h : PullC e G R) : PullC e (q :: G) (q :: R)
  | app {X G R : Heap} (h : PullC e G R) : PullC e (X ++ G) (X ++ R)
  | left {X Y R : Heap} (h : PullC e X R) : PullC e (X ++ Y) (R ++ Y)

theorem PullC.perm {e : Nat × Obj} {R : Heap} (h : PullC e H R) : H.Perm (e :: R) := by
  induction h with
  | head => exact .refl _
  | tail h ih => exact (ih.cons _).trans (List.Perm.swap ..)
  | app h ih => exact (ih.append_left _).trans List.perm_middle
  | left h ih => exact (ih.append_right _).trans (by simp)

theorem PullC.mem {e : Nat × Obj} {R : Heap} (h : PullC e H R) : e ∈ H := h.perm.symm.subset List.mem_cons_self

/-- H' is a part of H, in whatever order. -/
inductive HS : Heap → Heap → Prop
  | all {H : Heap} : HS H H
  | none {H : Heap} : HS H []
  | seg {H S R H' : Heap} (h : Pull S H R) (r : HS R H') : HS H (S ++ H')
  | cell {H R H' : Heap} {e : Nat × Obj} (h : PullC e H R) (r : HS R H') : HS H (e :: H')
  | drop {q : Nat × Obj} {H H' : Heap} (r : HS H H') : HS (q :: H) H'
  | dropS {X H H' : Heap} (r : HS H H') : HS (X ++ H) H'
  | assoc {H X Y Z : Heap} (r : HS H (X ++ (Y ++ Z))) : HS H ((X ++ Y) ++ Z)
  | keep {q : Nat × Obj} {H H' : Heap} (r : HS H H') : HS (q :: H) (q :: H')
  | keepS {X H H' : Heap} (r : HS H H') : HS (X ++ H) (X ++ H')

theorem HS.perm (h : HS H H') : ∃ R, H.Perm (H' ++ R) := by
  induction h with
  | all => exact ⟨[], by simp⟩
  | none => exact ⟨_, .refl _⟩
  | seg h r ih => obtain ⟨R, ih⟩ := ih; exact ⟨R, h.perm.trans (by rw [List.append_assoc]; exact ih.append_left _)⟩
  | cell h r ih => obtain ⟨R, ih⟩ := ih; exact ⟨R, h.perm.trans (ih.cons _)⟩
  | drop r ih => rename_i q _ _; obtain ⟨R, ih⟩ := ih; exact ⟨q :: R, (ih.cons q).trans List.perm_middle.symm⟩
  | dropS r ih => rename_i X _ _; obtain ⟨R, ih⟩ := ih; exact ⟨X ++ R, (ih.append_left X).trans (by rw [← List.append_assoc, ← List.append_assoc]; exact List.perm_append_comm.append_right _)⟩
  | assoc r ih => obtain ⟨R, ih⟩ := ih; exact ⟨R, by simpa using ih⟩
  | keep r ih => obtain ⟨R, ih⟩ := ih; exact ⟨R, ih.cons _⟩
  | keepS r ih => obtain ⟨R, ih⟩ := ih; exact ⟨R, by rw [List.append_assoc]; exact ih.append_left _⟩

theorem Holds.hs {w : World} (h : Holds E H w) (hs : HS H H') : Holds E H' w := by
  obtain ⟨R, hp⟩ := hs.perm
  exact h.sub hp

/-- G is something, and then H. -/
inductive Pre (H : Heap) : Heap → Prop
  | refl : Pre H H
  | cons {q : Nat × Obj} {G : Heap} (h : Pre H G) : Pre H (q :: G)
  | app {X G : Heap} (h : Pre H G) : Pre H (X ++ G)

theorem Pre.ex {G : Heap} (h : Pre H G) : ∃ X, G = X ++ H := by
  induction h with
  | refl => exact ⟨[], rfl⟩
  | cons h ih => rename_i q _; obtain ⟨X, ih⟩ := ih; exact ⟨q :: X, by rw [ih]; rfl⟩
  | app h ih => rename_i Y _; obtain ⟨X, ih⟩ := ih; exact ⟨Y ++ X, by rw [ih, List.append_assoc]⟩

/-- The same, with what comes ahead. -/
inductive PreL (H : Heap) : Heap → Heap → Prop
  | refl : PreL H H []
  | cons {q : Nat × Obj} {G X : Heap} (h : PreL H G X) : PreL H (q :: G) (q :: X)
  | app {Y G X : Heap} (h : PreL H G X) : PreL H (Y ++ G) (Y ++ X)

theorem PreL.eq {G X : Heap} (h : PreL H G X) : G = X ++ H := by
  induction h with
  | refl => rfl
  | cons h ih => rw [ih]; rfl
  | app h ih => rw [ih, List.append_assoc]

/-! ### The one form of a goal -/

def Then (E : Env) (N : Nat) (L : List (Nat × Value)) (H : Heap) (K : Act → World → Prop) : Prop := ∀ a w, Sl N L a → Holds E H w → K a w

theorem Then.imp (h : ∀ a w, K' a w → K a w) (t : Then E N L H K') : Then E N L H K := fun a w hL hH => h a w (t a w hL hH)

theorem Then.run {a : Act} {w : World} (hL : Sl N L a) (hH : Holds E H w) (t : Then E N L H K) : K a w := t a w hL hH

theorem Then.slots (hs : Sub L L') (t : Then E N L' H K) : Then E N L H K := fun a w hL hH => t a w (hL.sub hs) hH

theorem Then.mem (hs : HS H H') (t : Then E N L H' K) : Then E N L H K := fun a w hL hH => t a w hL (hH.hs hs)

/-- What memory says of itself may be used: block numbers of two entries differ. -/
theorem Then.nodup (t : (H.map (·.1)).Nodup → Then E N L H K) : Then E N L H K := fun a w hL hH => t hH.nd a w hL hH

/-! ### Code -/

theorem t_seq {x y : Code} (t : Then E N L H (x.wp P (Exit.then (y.wp P Q) Q))) : Then E N L H ((Code.seq x y).wp P Q) := fun a w hL hH => wp_seq (t a w hL hH)
theorem t_skip (t : Then E N L H (Q .normal)) : Then E N L H (Code.skip.wp P Q) := fun a w hL hH => wp_skip (t a w hL hH)
theorem t_label {l : Nat} (t : Then E N L H (Q .normal)) : Then E N L H ((Code.label l).wp P Q) := fun a w hL hH => wp_label (t a w hL hH)
theorem t_exit {id : Nat} (t : Then E N L H (Q (.exit id))) : Then E N L H ((Code.exit id).wp P Q) := fun a w hL hH => wp_exit (t a w hL hH)
theorem t_ret (t : Then E N L H (Q .ret)) : Then E N L H (Code.ret.wp P Q) := fun a w hL hH => wp_ret (t a w hL hH)
theorem t_block {id : Nat} {c : Code} (t : Then E N L H (c.wp P (Exit.inBlock id Q))) : Then E N L H ((Code.block id c).wp P Q) := fun a w hL hH => wp_block (t a w hL hH)

theorem t_true {c : Operand} {x y : Code} (hc : evL L c = some (.bool true)) (t : Then E N L H (x.wp P Q)) : Then E N L H ((Code.cond c x y).wp P Q) :=
  fun a w hL hH => wp_cond_true (hL.ev hc) (t a w hL hH)
theorem t_false {c : Operand} {x y : Code} (hc : evL L c = some (.bool false)) (t : Then E N L H (y.wp P Q)) : Then E N L H ((Code.cond c x y).wp P Q) :=
  fun a w hL hH => wp_cond_false (hL.ev hc) (t a w hL hH)
theorem t_cond {c : Operand} {x y : Code} {b : Bool} (hc : evL L c = some (.bool b)) (t : b = true → Then E N L H (x.wp P Q)) (f : b = false → Then E N L H (y.wp P Q)) :
    Then E N L H ((Code.cond c x y).wp P Q) :=
  fun a w hL hH => wp_cond_split (hL.ev hc) (fun h => t h a w hL hH) (fun h => f h a w hL hH)
theorem t_dec {c : Operand} {x y : Code} {p : Prop} [Decidable p] (hc : evL L c = some (.bool (decide p))) (t : p → Then E N L H (x.wp P Q)) (f : ¬ p → Then E N L H (y.wp P Q)) :
    Then E N L H ((Code.cond c x y).wp P Q) :=
  t_cond hc (fun h => t (of_decide_eq_true h)) (fun h => f (of_decide_eq_false h))
theorem t_dect {c : Operand} {x y : Code} {p : Prop} [Decidable p] (hc : evL L c = some (.bool (decide p))) (hp : p) (t : Then E N L H (x.wp P Q)) :
    Then E N L H ((Code.cond c x y).wp P Q) :=
  t_dec hc (fun _ => t) (fun h => absurd hp h)
theorem t_decf {c : Operand} {x y : Code} {p : Prop} [Decidable p] (hc : evL L c = some (.bool (decide p))) (hp : ¬ p) (t : Then E N L H (y.wp P Q)) :
    Then E N L H ((Code.cond c x y).wp P Q) :=
  t_dec hc (fun h => absurd h hp) (fun _ => t)

/-- The end of a piece of code. -/
theorem e_next (t : Then E N L H K) : Then E N L H (Exit.then K Q .normal) := t
theorem e_pass_ret (t : Then E N L H (Q .ret)) : Then E N L H (Exit.then K Q .ret) := t
theorem e_pass_exit {id : Nat} (t : Then E N L H (Q (.exit id))) : Then E N L H (Exit.then K Q (.exit id)) := t
theorem e_block (id : Nat) (t : Then E N L H (Q .normal)) : Then E N L H (Exit.inBlock id Q .normal) := t
theorem e_block_ret {id : Nat} (t : Then E N L H (Q .ret)) : Then E N L H (Exit.inBlock id Q .ret) := t
theorem e_block_here {id : Nat} (t : Then E N L H (Q .normal)) : Then E N L H (Exit.inBlock id Q (.exit id)) := fun a w hL hH => by
  simp only [Exit.inBlock, if_true]; exact t a w hL hH
theorem e_block_on {id i : Nat} (h : Nat.beq i id = false) (t : Then E N L H (Q (.exit i))) : Then E N L H (Exit.inBlock id Q (.exit i)) := fun a w hL hH => by
  have : i ≠ id := Nat.ne_of_beq_eq_false h
  simp only [Exit.inBlock, if_neg this]; exact t a w hL hH

/-- The ways through a piece of code meet again: behind it M is known. -/
theorem t_cut (M : Act → World → Prop) {x y : Code} (t : Then E N L H (x.wp P (Exit.then M Q))) (f : ∀ a w, M a w → y.wp P Q a w) : Then E N L H ((Code.seq x y).wp P Q) :=
  fun a w hL hH => wp_seq (wp_mono (t a w hL hH) fun e a w q => by cases e <;> first | exact f a w q | exact q)

/-- A loop: J n at each round's head, n falling. -/
theorem t_loop {c : Code} (J : Nat → Act → World → Prop) (n0 : Nat) (h0 : Then E N L H (J n0))
    (round : ∀ n a w, J n a w → c.wp P (Exit.then (fun a' w' => ∃ m, m < n ∧ J m a' w') Q) a w) : Then E N L H ((Code.loop c).wp P Q) := by
  classical
  intro a w hL hH
  have key : ∀ n a w, J n a w → (Code.loop c).wp P Q a w := by
    intro n a w hJ
    let I : Act → World → Prop := fun a w => ∃ n, J n a w
    have hI : ∀ a w, I a w → ∃ n, J n a w ∧ ∀ m, m < n → ¬ J m a w := by
      intro a w ⟨n, hn⟩
      induction n using Nat.strongRecOn with
      | _ n ih =>
        by_cases hm : ∃ m, m < n ∧ J m a w
        · obtain ⟨m, hlt, hj⟩ := hm; exact ih m hlt hj
        · exact ⟨n, hn, fun m hlt hj => hm ⟨m, hlt, hj⟩⟩
    let mu : Act → World → Nat := fun a w => if h : I a w then Classical.choose (hI a w h) else 0
    refine wp_loop I mu ⟨n, hJ⟩ fun a w h => ?_
    have hmu : mu a w = Classical.choose (hI a w h) := dif_pos h
    obtain ⟨hj, _⟩ := Classical.choose_spec (hI a w h)
    refine wp_mono (round _ a w hj) fun e a' w' q => ?_
    cases e <;> try exact q
    obtain ⟨m, hlt, hjm⟩ := q
    refine ⟨⟨m, hjm⟩, ?_⟩
    have h' : I a' w' := ⟨m, hjm⟩
    have hmu' : mu a' w' = Classical.choose (hI a' w' h') := dif_pos h'
    have hsp := Classical.choose_spec (hI a' w' h')
    have : Classical.choose (hI a' w' h') ≤ m := by
      rcases Nat.lt_or_ge m (Classical.choose (hI a' w' h')) with hc | hc
      · exact absurd hjm (hsp.2 m hc)
      · exact hc
    rw [hmu, hmu']
    omega
  exact key n0 a w (h0 a w hL hH)

end Go.Sal
