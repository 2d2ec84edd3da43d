/-
  Generic lemmas, of no program: 'Mod S w w'': of the blocks that w has, only those in S may be otherwise in w'; and the law of a range over a function, for an iterator that may keep state of its own in cells (S), by an invariant of the caller's.
-/
import Derived.Test.YtcdpiemkbefcoaaChecked
import Derived.WalkKit
import Derived.RangeFuncNested
import Derived.RangeFuncBound
import Derived.RangeFuncCalls
import Derived.RangeFuncLeaves
import Derived.Shelf.Abstract
import Derived.OwnWalkIn
import Derived.Deep.Draws
import Derived.TacticsInMore
import Derived.LoopNIn
import Derived.LoopIn
namespace Go.Proofs.Ytcdpiemkbefcoaa
open Go.RowKit

structure Mod (S : Nat → Prop) (w w' : World) : Prop where
  os : w'.os = w.os
  tape : w'.tape = w.tape
  output : w'.output = w.output
  size : w.heap.size ≤ w'.heap.size
  block : ∀ k, k < w.heap.size → ¬ S k → w'.heap[k]? = w.heap[k]?

theorem Mod.refl (S : Nat → Prop) (w : World) : Mod S w w := ⟨rfl, rfl, rfl, Nat.le_refl _, fun _ _ _ => rfl⟩
theorem Mod.trans {S : Nat → Prop} {a b c : World} (h : Mod S a b) (k : Mod S b c) : Mod S a c :=
  ⟨k.os.trans h.os, k.tape.trans h.tape, k.output.trans h.output, Nat.le_trans h.size k.size, fun i hi hs => (k.block i (Nat.lt_of_lt_of_le hi h.size) hs).trans (h.block i hi hs)⟩
theorem Mod.mono {S T : Nat → Prop} {a b : World} (h : Mod S a b) (hst : ∀ k, k < a.heap.size → S k → T k) : Mod T a b :=
  ⟨h.os, h.tape, h.output, h.size, fun i hi hs => h.block i hi (fun x => hs (hst i hi x))⟩
theorem Mod.drew {S : Nat → Prop} {a w : World} (h : Mod S a w) : Mod S a w.drew := ⟨h.os, h.tape, h.output, h.size, h.block⟩
theorem Mod.drewN {S : Nat → Prop} {a w : World} (h : Mod S a w) (n : Nat) : Mod S a (w.drewN n) := ⟨h.os, h.tape, h.output, h.size, h.block⟩
theorem Mod.alloc {S : Nat → Prop} {a w : World} (h : Mod S a w) (o : Obj) : Mod S a (w.alloc o) :=
  h.trans ⟨rfl, rfl, rfl, by simp, fun k hk _ => Below.heap_alloc _ _ _ hk⟩
theorem Mod.setCell {S : Nat → Prop} {a w : World} (h : Mod S a w) {p : Addr} (hp : p.block < a.heap.size → S p.block) (u : Value) : Mod S a (w.setCell p u) :=
  ⟨h.os, h.tape, h.output, by simpa using h.size, fun k hk hs => (Below.heap_setCell _ _ _ _ (fun e => by subst e; exact hs (hp hk))).trans (h.block k hk hs)⟩
theorem Mod.grown {S : Nat → Prop} {a w w' : World} {row : Option Nat} (h : Mod S a w) (hg : w.grownBy w' row) (hr : ∀ k, row = some k → k < a.heap.size → S k) : Mod S a w' :=
  ⟨hg.os.trans h.os, hg.tape.trans h.tape, hg.output.trans h.output, Nat.le_trans h.size hg.size, fun k hk hs =>
    (hg.block k (Nat.lt_of_lt_of_le hk h.size) (fun e => hs (hr k e.symm hk))).trans (h.block k hk hs)⟩
theorem Mod.putObj {S : Nat → Prop} {a w : World} (h : Mod S a w) {r : Nat} (hr : r < a.heap.size → S r) (o : Obj) : Mod S a (w.putObj r o) :=
  ⟨h.os, h.tape, h.output, by simpa using h.size, fun k hk hs => (World.putObj_heap_other (fun e => by subst e; exact hs (hr hk))).trans (h.block k hk hs)⟩
theorem Mod.below {S : Nat → Prop} {w w' : World} (h : Mod S w w') {B : Nat} (hB : B ≤ w.heap.size) (hS : ∀ k, S k → B ≤ k) : Below B w w' :=
  ⟨h.os, h.tape, h.output, h.size, fun k hk => h.block k (by omega) (fun s => by have := hS k s; omega)⟩
theorem Mod.of_below {S : Nat → Prop} {w w' : World} {B : Nat} (h : Below B w w') (hS : ∀ k, B ≤ k → k < w.heap.size → S k) : Mod S w w' :=
  ⟨h.os, h.tape, h.output, h.size, fun k hk hs => h.block k (Nat.lt_of_not_le fun hb => hs (hS k hb hk))⟩
/-- A callee that makes memory alone. -/
theorem Mod.after {S : Nat → Prop} {a w w' : World} (h : Mod S a w) (hb : Below w.heap.size w w') : Mod S a w' :=
  h.trans (Mod.of_below hb (fun _ h1 h2 => absurd h2 (by omega)))
theorem Mod.cell {S : Nat → Prop} {w w' : World} (h : Mod S w w') {p : Addr} (hp : p.block < w.heap.size) (hs : ¬ S p.block) : w'.cell? p = w.cell? p :=
  World.cell?_of_block (h.block _ hp hs)
theorem Mod.frozen {S : Nat → Prop} {w w' : World} (h : Mod S w w') {p : Addr} (hp : p.block < w.heap.size) (hs : ¬ S p.block) : w'.frozen? p = w.frozen? p :=
  World.frozen?_of_block (h.block _ hp hs)
theorem Mod.cell_of {S : Nat → Prop} {w w' : World} (h : Mod S w w') {p : Addr} {v : Value} (hs : ¬ S p.block) (hc : w.cell? p = some v) : w'.cell? p = some v :=
  (h.cell (World.block_lt_of_cell? w p hc) hs).trans hc

/-- THE CONTRACT OF AN ITERATOR: it yields 'xs', in order; it writes S alone of what is there; it leans on S and Dt. -/
def Iter {α : Type} (P : Program) (g : Nat) (lb : Array Value) (encs : α → Array Value) (S Dt : Nat → Prop) (xs : List α) (W : World) : Prop :=
  ∀ (l : Nat) (J Jx : List α → World → Prop) (n : Nat),
    (∀ pre A B, J pre A → Mod S A B → J pre B) → (∀ pre A B, Jx pre A → Mod S A B → Jx pre B) →
    (∀ pre x rest W1, xs = pre ++ x :: rest → (∀ k, S k → k < W1.heap.size) → J pre W1 → YieldAt Fence.wide (n - 1) P l (encs x) W1 fun e W' =>
      Mod (fun k => ¬ S k ∧ ¬ Dt k) W1 W' ∧ ((e = .returned (.bool true) ∧ J (pre ++ [x]) W') ∨ (e = .returned (.bool false) ∧ Jx (pre ++ [x]) W'))) →
    J [] W →
    CallsIn Fence.wide n P g (#[.func (.yield l) #[] #[]] ++ lb) W fun e W' => (∃ v, e = .returned v) ∧ (J xs W' ∨ ∃ pre x rest, xs = pre ++ x :: rest ∧ Jx (pre ++ [x]) W')

/-- How a round's body may be left: what it wrote; the invariant at what has come. -/
def roundQ {α : Type} (T : Nat → Prop) (I : List α → World → Prop) (Ix : Code → List α → World → Prop) (pre : List α) (W : World) : Exit → Act → World → Prop
  | .normal, _, W' => Mod T W W' ∧ I pre W'
  | .ret, _, W' => Mod T W W' ∧ Ix .ret pre W'
  | .exit id, _, W' => Mod T W W' ∧ Ix (.exit id) pre W'
  | .goto t, _, W' => Mod T W W' ∧ Ix (.goto t) pre W'
  | .panic _, _, _ => False
  | .outgrown, _, _ => False

theorem wp_rangeIter {α : Type} {P : Program} {n : Nat} {g : Operand} {ps : Array Tmp} {assign body : Code} {Q : Exit → Act → World → Prop} {a : Act} {w : World}
    {gf : Nat} {lb : Array Value} (hg : a.eval g = .func (.func gf) #[] lb) (eg : ∀ args w, (callFunc gf args).run P w = .ok (.enter gf args) w)
    {encs : α → Array Value} (hps : ∀ x, (encs x).size = ps.size) {S Dt : Nat → Prop} {xs : List α}
    (hit : ∀ o o', Iter P gf lb encs S Dt xs ((w.alloc o).alloc o'))
    (hSl : ¬ S w.heap.size ∧ ¬ S (w.heap.size + 1)) (hDl : ¬ Dt w.heap.size ∧ ¬ Dt (w.heap.size + 1))
    (I : List α → World → Prop) (Ix : Code → List α → World → Prop)
    (hI : ∀ pre A B, I pre A → Mod (fun k => S k ∨ k = w.heap.size + 1) A B → I pre B) (hIx : ∀ c pre A B, Ix c pre A → Mod (fun k => S k ∨ k = w.heap.size + 1) A B → Ix c pre B)
    (h0 : I [] w)
    (hround : ∀ pre x rest W, xs = pre ++ x :: rest → (∀ k, S k → k < W.heap.size) → w.heap.size + 1 < W.heap.size → I pre W →
      assign.wpIn (Fence.wide.inRound (w.heap.size + 1)) (n - 1 - 1) P (Exit.then (fun a₁ W₁ => Mod (fun k => ¬ S k ∧ ¬ Dt k ∧ k ≠ w.heap.size ∧ k ≠ w.heap.size + 1) W W₁ ∧ ∀ W2, Mod (fun k => k = w.heap.size + 1) W₁ W2 →
        body.wpIn (Fence.wide.inRound (w.heap.size + 1)) (n - 1 - 1) P (roundQ (fun k => ¬ S k ∧ ¬ Dt k ∧ k ≠ w.heap.size ∧ k ≠ w.heap.size + 1) I Ix (pre ++ [x]) W2) a₁ W2) (fun _ _ _ => False))
        { tmps := (ps.zip (encs x)).foldl (fun t (p, v) => t.setIfInBounds p v) a.tmps, defers := [] } W)
    (hdone : ∀ W, I xs W → W.heap[w.heap.size]? = some (.deferred (some [])) → w.heap.size + 1 < W.heap.size → Q .normal { a with defers := { target := .collected w.heap.size, args := #[] } :: a.defers } W)
    (hstop : ∀ c pre x rest W, xs = pre ++ x :: rest → Ix c (pre ++ [x]) W → W.heap[w.heap.size]? = some (.deferred (some [])) → w.heap.size + 1 < W.heap.size →
      c.wpIn Fence.wide n P Q { a with defers := { target := .collected w.heap.size, args := #[] } :: a.defers } W) :
    (Code.rangeFunc g ps assign body).wpIn Fence.wide n P Q a w := by
  refine wpIn_rangeFunc ?_
  intro fn hfn
  obtain ⟨rec, hrec⟩ : ∃ rec : LoopState → Option Code → Loop, rec = fun st pe => { state := st, pending := pe, fn, tmps := a.tmps, params := ps, assign, body, defers := w.heap.size } := ⟨_, rfl⟩
  obtain ⟨W1, hW1⟩ : ∃ W1, (w.alloc (.deferred (some []))).alloc (.loop (rec .ready none)) = W1 := ⟨_, rfl⟩
  have hL1 : W1.heap[w.heap.size + 1]? = some (.loop (rec .ready none)) := by
    rw [← hW1]; have := World.alloc_heap_new (w.alloc (.deferred (some []))) (.loop (rec .ready none)); rwa [World.size_alloc] at this
  have hK1 : W1.heap[w.heap.size]? = some (.deferred (some [])) := by
    rw [← hW1]; exact (Below.heap_alloc _ _ _ (by simp)).trans (World.alloc_heap_new w _)
  have hI1 : I [] W1 := by rw [← hW1]; exact hI _ _ _ h0 (((Mod.refl _ w).alloc _).alloc _)
  have hitW : Iter P gf lb encs S Dt xs W1 := by rw [← hW1]; exact hit _ _
  refine ⟨w.heap.size + 1, [{ target := .collected w.heap.size, args := #[] }], W1, { target := .fn (.func gf) lb, args := #[.func (.yield (w.heap.size + 1)) #[] #[]] }, W1, gf,
    #[.func (.yield (w.heap.size + 1)) #[] #[]] ++ lb, W1, ?_, ?_, fun _ _ => trivial, ?_, (fun h => by cases h), ?_⟩
  · rw [← hW1, hrec]; exact run_enterLoop_outer _ _ _ _ _
  · simp only [resolve, hg]
    simp [go_sem]
  · simp [invoke, go_sem, eg]
  · have keep : ∀ {A B : World} {o : Obj} {r : Nat}, Mod S A B → ¬ S r → A.heap[r]? = some o → B.heap[r]? = some o := fun h hs ho => (h.block _ (Array.getElem?_eq_some_iff.1 ho).1 hs).trans ho
    refine (hitW (w.heap.size + 1)
      (fun pre W => I pre W ∧ W.heap[w.heap.size + 1]? = some (.loop (rec .ready none)) ∧ W.heap[w.heap.size]? = some (.deferred (some [])))
      (fun pre W => ∃ c, Ix c pre W ∧ W.heap[w.heap.size + 1]? = some (.loop (rec .done (some c))) ∧ W.heap[w.heap.size]? = some (.deferred (some [])))
      (n - 1)
      (fun pre A B h hm => ⟨hI _ _ _ h.1 (hm.mono fun _ _ s => .inl s), keep hm hSl.2 h.2.1, keep hm hSl.1 h.2.2⟩)
      (fun pre A B ⟨c, h, h1, h2⟩ hm => ⟨c, hIx _ _ _ _ h (hm.mono fun _ _ s => .inl s), keep hm hSl.2 h1, keep hm hSl.1 h2⟩)
      ?_ ⟨hI1, hL1, hK1⟩).mono ?_
    · rintro pre x rest W hx hSW ⟨hi, hl, hk⟩
      have hlt : w.heap.size + 1 < W.heap.size := (Array.getElem?_eq_some_iff.1 hl).1
      have hy := run_yield (P := P) (args := encs x) hl (by rw [hrec]; exact hps x)
      rw [hrec] at hy
      refine ⟨fn, _, assign, body, hy, roundIn_of_wpIn hfn (wpIn_mono (hround pre x rest W hx hSW hlt hi) ?_)⟩
      rintro e a₁ Wa hp
      cases e with
      | normal =>
        obtain ⟨hm, hb⟩ := hp
        have hla : Wa.heap[w.heap.size + 1]? = some (.loop (rec .ready none)) := (hm.block _ hlt (fun h => h.2.2.2 rfl)).trans hl
        have hka : Wa.heap[w.heap.size]? = some (.deferred (some [])) := (hm.block _ (by omega) (fun h => h.2.2.1 rfl)).trans hk
        have hlta : w.heap.size + 1 < Wa.heap.size := (Array.getElem?_eq_some_iff.1 hla).1
        refine ⟨_, run_beginRound hla (by rw [hrec]), ?_⟩
        have hl2 : (Wa.putObj (w.heap.size + 1) (.loop { rec .ready none with state := .busy })).heap[w.heap.size + 1]? = some (.loop { rec .ready none with state := .busy }) := World.putObj_heap_same hlta
        have hk2 : (Wa.putObj (w.heap.size + 1) (.loop { rec .ready none with state := .busy })).heap[w.heap.size]? = some (.deferred (some [])) := (World.putObj_heap_other (by omega)).trans hka
        have hm2 : Mod (fun k => k = w.heap.size + 1) Wa (Wa.putObj (w.heap.size + 1) (.loop { rec .ready none with state := .busy })) := Mod.putObj (Mod.refl (fun k => k = w.heap.size + 1) Wa) (fun _ => rfl) _
        refine wpIn_mono (hb _ hm2) ?_
        have fin : ∀ (jump : Option Code) (W3 : World), Mod (fun k => ¬ S k ∧ ¬ Dt k ∧ k ≠ w.heap.size ∧ k ≠ w.heap.size + 1) (Wa.putObj (w.heap.size + 1) (.loop { rec .ready none with state := .busy })) W3 →
            (Instr.endRound (w.heap.size + 1) jump).run P W3 = .ok (.bool jump.isNone) (W3.putObj (w.heap.size + 1) (.loop (rec (if jump.isNone then .ready else .done) jump))) ∧
            (W3.putObj (w.heap.size + 1) (.loop (rec (if jump.isNone then .ready else .done) jump))).heap[w.heap.size + 1]? = some (.loop (rec (if jump.isNone then .ready else .done) jump)) ∧
            (W3.putObj (w.heap.size + 1) (.loop (rec (if jump.isNone then .ready else .done) jump))).heap[w.heap.size]? = some (.deferred (some [])) ∧
            Mod (fun k => ¬ S k ∧ ¬ Dt k) W (W3.putObj (w.heap.size + 1) (.loop (rec (if jump.isNone then .ready else .done) jump))) ∧
            Mod (fun k => S k ∨ k = w.heap.size + 1) W3 (W3.putObj (w.heap.size + 1) (.loop (rec (if jump.isNone then .ready else .done) jump))) := fun jump W3 hm3 => by
          have hl3 : W3.heap[w.heap.size + 1]? = some (.loop { rec .ready none with state := .busy }) := (hm3.block _ (by simpa using hlta) (fun h => h.2.2.2 rfl)).trans hl2
          have hk3 : W3.heap[w.heap.size]? = some (.deferred (some [])) := (hm3.block _ (by simp; omega) (fun h => h.2.2.1 rfl)).trans hk2
          have := run_endRound (P := P) jump hl3
          rw [hrec] at this ⊢
          refine ⟨this, World.putObj_heap_same (Array.getElem?_eq_some_iff.1 hl3).1, (World.putObj_heap_other (by omega)).trans hk3, ?_, (Mod.refl _ W3).putObj (fun _ => .inr rfl) _⟩
          refine Mod.putObj ?_ (fun _ => ⟨hSl.2, hDl.2⟩) _
          rw [hrec] at hm2 hm3
          exact (hm.mono fun k _ s => ⟨s.1, s.2.1⟩).trans ((hm2.mono fun k _ s => by subst s; exact ⟨hSl.2, hDl.2⟩).trans (hm3.mono fun k _ s => ⟨s.1, s.2.1⟩))
        rintro e a3 W3 hp
        cases e with
        | normal =>
          obtain ⟨hm3, hi3⟩ := hp
          obtain ⟨hr, hl4, hk4, hT, hS⟩ := fin none W3 hm3
          exact ⟨_, _, hr, hT, .inl ⟨rfl, hI _ _ _ hi3 hS, hl4, hk4⟩⟩
        | ret =>
          obtain ⟨hm3, hi3⟩ := hp
          obtain ⟨hr, hl4, hk4, hT, hS⟩ := fin (some .ret) W3 hm3
          exact ⟨_, _, hr, hT, .inr ⟨rfl, .ret, hIx _ _ _ _ hi3 hS, hl4, hk4⟩⟩
        | exit id =>
          obtain ⟨hm3, hi3⟩ := hp
          obtain ⟨hr, hl4, hk4, hT, hS⟩ := fin (some (.exit id)) W3 hm3
          exact ⟨_, _, hr, hT, .inr ⟨rfl, .exit id, hIx _ _ _ _ hi3 hS, hl4, hk4⟩⟩
        | goto t =>
          obtain ⟨hm3, hi3⟩ := hp
          obtain ⟨hr, hl4, hk4, hT, hS⟩ := fin (some (.goto t)) W3 hm3
          exact ⟨_, _, hr, hT, .inr ⟨rfl, .goto t, hIx _ _ _ _ hi3 hS, hl4, hk4⟩⟩
        | panic ch => exact hp.elim
        | outgrown => exact hp.elim
      | exit id => exact hp.elim
      | goto t => exact hp.elim
      | ret => exact hp.elim
      | panic ch => exact hp.elim
      | outgrown => exact hp.elim
    · rintro e W2 ⟨⟨v, rfl⟩, (⟨hi, hl, hk⟩ | ⟨pre, x, rest, hx, c, hi, hl, hk⟩)⟩
      · have hlt : w.heap.size + 1 < W2.heap.size := (Array.getElem?_eq_some_iff.1 hl).1
        exact ⟨none, _, by have := run_endLoop (P := P) hl (by rw [hrec]; simp); rw [hrec] at this; exact this,
          hdone _ (hI _ _ _ hi ((Mod.refl _ W2).putObj (fun _ => .inr rfl) _)) ((World.putObj_heap_other (by omega)).trans hk) (by simpa using hlt)⟩
      · have hlt : w.heap.size + 1 < W2.heap.size := (Array.getElem?_eq_some_iff.1 hl).1
        exact ⟨some c, _, by have := run_endLoop (P := P) hl (by rw [hrec]; simp); rw [hrec] at this; exact this,
          hstop c pre x rest _ hx (hIx _ _ _ _ hi ((Mod.refl _ W2).putObj (fun _ => .inr rfl) _)) ((World.putObj_heap_other (by omega)).trans hk) (by simpa using hlt)⟩

/-- A call met in a fenced walk at the wide fence; and in a round there. -/
theorem callW {P : Program} {f : FuncId} {args : Array Value} {w : World} {R R' : Ending → World → Prop} {n : Nat} (h : Calls P f args w R) (hr : ∀ e w', R e w' → R' e w') :
    Fence.wide.fn f ∧ (Fence.wide.depth.isSome = true → 1 ≤ n) ∧ CallsIn Fence.wide (n - 1) P f args w R' :=
  ⟨trivial, (fun hx => by cases hx), (callsIn_wide.2 h).mono hr⟩
theorem callR {P : Program} {f : FuncId} {args : Array Value} {w : World} {R R' : Ending → World → Prop} {n l : Nat} (h : Calls P f args w R) (hr : ∀ e w', R e w' → R' e w') :
    (Fence.wide.inRound l).fn f ∧ ((Fence.wide.inRound l).depth.isSome = true → 1 ≤ n) ∧ CallsIn (Fence.wide.inRound l) (n - 1) P f args w R' :=
  ⟨trivial, (fun hx => by cases hx), CallsIn.inRound l ((callsIn_wide.2 h).mono hr)⟩
theorem bt {a b c : World} (h : Below a.heap.size a b) (k : Below b.heap.size b c) : Below a.heap.size a c := h.trans (k.mono h.size)
theorem below_putObj {B : Nat} {a w : World} (h : Below B a w) {r : Nat} (hr : B ≤ r) (o : Obj) : Below B a (w.putObj r o) :=
  h.trans ⟨rfl, rfl, rfl, by simp, fun k hk => World.putObj_heap_other (by omega)⟩
theorem cellN (w : World) (v : Value) (t : TypeId) : (w.alloc (.cells #[v] t)).cell? ⟨w.heap.size, 0, none⟩ = some v ∧ (w.alloc (.cells #[v] t)).frozen? ⟨w.heap.size, 0, none⟩ = false :=
  ⟨by simp, by simp⟩
theorem cellA {w : World} {a : Addr} {v : Value} (o : Obj) (h : w.cell? a = some v) : (w.alloc o).cell? a = some v := (World.cell?_alloc_lt w o a (World.block_lt_of_cell? w a h)).trans h
theorem frozA {w : World} {a : Addr} {v : Value} (o : Obj) (h : w.cell? a = some v) (hf : w.frozen? a = false) : (w.alloc o).frozen? a = false := (World.frozen?_alloc_old w o a (Nat.ne_of_lt (World.block_lt_of_cell? w a h))).trans hf
theorem putObj_cell {w : World} {r : Nat} {o : Obj} {p : Addr} (h : p.block ≠ r) : (w.putObj r o).cell? p = w.cell? p := World.cell?_of_block (World.putObj_heap_other h)
theorem setCell_heap {w : World} {p : Addr} {v : Value} {k : Nat} {o : Obj} (h : w.heap[k]? = some o) (hk : k ≠ p.block) : (w.setCell p v).heap[k]? = some o := (Below.heap_setCell _ _ _ _ hk).trans h
theorem calls_of_all {P : Program} {f : FuncId} {args : Array Value} {w : World} {R : Ending → World → Prop} (h : ∀ n, CallsIn Fence.wide n P f args w R) : Calls P f args w R := callsIn_wide.1 (h 0)
theorem wideN (n : Nat) : Fence.wide.depth.isSome = true → 1 ≤ n := fun hx => by cases hx

end Go.Proofs.Ytcdpiemkbefcoaa
