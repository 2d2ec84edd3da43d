/-
  Generic lemmas, of no program: 'Mod S w w'': of the blocks that w has, only those in S may be otherwise in w'; and the law of a range over a function, for an iterator that may keep state of its own in cells (S), by an invariant of the caller's.
  Generic lemmas, of no program: copy out of a string into a block of the call's own; small facts on blocks.
  Generic lemmas, of no program: a region that draws its order, whose operations read, and call what leaves the blocks that were there alone (but for a set S): one walk in the order of the text, at the class of all later worlds; in a plain walk, and inside a fence.
  A block of the heap as a whole, of no program.
-/
import Derived.Test.YtpbmeeogledmdaeChecked
import Derived.WalkKit
import Derived.RangeFuncNested
import Derived.RangeFuncBound
import Derived.RangeFuncCalls
import Derived.RangeFuncLeaves
import Derived.Shelf.Abstract
import Derived.OwnWalkIn
import Derived.Deep.Draws
import Derived.TacticsInMore
import Derived.LoopNIn
import Derived.LoopIn
import Derived.WalkSpells
import Derived.WalkLawsBesides
import Derived.Outline
import Derived.Deep.QuietTactic
import Derived.BigQuiet
import Derived.Lib.Hide
import Derived.Lib.BufferWrite
import Derived.Laws.CopyOwn
import Derived.Lib.QuoteBits
import Derived.OrdersIn
import Derived.Laws.EntriesVeiled
namespace Go.Proofs.Ytpbmeeogledmdae
open Go.RowKit

structure Mod (S : Nat → Prop) (w w' : World) : Prop where
  os : w'.os = w.os
  tape : w'.tape = w.tape
  output : w'.output = w.output
  size : w.heap.size ≤ w'.heap.size
  block : ∀ k, k < w.heap.size → ¬ S k → w'.heap[k]? = w.heap[k]?

theorem Mod.refl (S : Nat → Prop) (w : World) : Mod S w w := ⟨rfl, rfl, rfl, Nat.le_refl _, fun _ _ _ => rfl⟩
theorem Mod.trans {S : Nat → Prop} {a b c : World} (h : Mod S a b) (k : Mod S b c) : Mod S a c :=
  ⟨k.os.trans h.os, k.tape.trans h.tape, k.output.trans h.output, Nat.le_trans h.size k.size, fun i hi hs => (k.block i (Nat.lt_of_lt_of_le hi h.size) hs).trans (h.block i hi hs)⟩
theorem Mod.mono {S T : Nat → Prop} {a b : World} (h : Mod S a b) (hst : ∀ k, k < a.heap.size → S k → T k) : Mod T a b :=
  ⟨h.os, h.tape, h.output, h.size, fun i hi hs => h.block i hi (fun x => hs (hst i hi x))⟩
theorem Mod.drew {S : Nat → Prop} {a w : World} (h : Mod S a w) : Mod S a w.drew := ⟨h.os, h.tape, h.output, h.size, h.block⟩
theorem Mod.drewN {S : Nat → Prop} {a w : World} (h : Mod S a w) (n : Nat) : Mod S a (w.drewN n) := ⟨h.os, h.tape, h.output, h.size, h.block⟩
theorem Mod.alloc {S : Nat → Prop} {a w : World} (h : Mod S a w) (o : Obj) : Mod S a (w.alloc o) :=
  h.trans ⟨rfl, rfl, rfl, by simp, fun k hk _ => Below.heap_alloc _ _ _ hk⟩
theorem Mod.setCell {S : Nat → Prop} {a w : World} (h : Mod S a w) {p : Addr} (hp : p.block < a.heap.size → S p.block) (u : Value) : Mod S a (w.setCell p u) :=
  ⟨h.os, h.tape, h.output, by simpa using h.size, fun k hk hs => (Below.heap_setCell _ _ _ _ (fun e => by subst e; exact hs (hp hk))).trans (h.block k hk hs)⟩
theorem Mod.grown {S : Nat → Prop} {a w w' : World} {row : Option Nat} (h : Mod S a w) (hg : w.grownBy w' row) (hr : ∀ k, row = some k → k < a.heap.size → S k) : Mod S a w' :=
  ⟨hg.os.trans h.os, hg.tape.trans h.tape, hg.output.trans h.output, Nat.le_trans h.size hg.size, fun k hk hs =>
    (hg.block k (Nat.lt_of_lt_of_le hk h.size) (fun e => hs (hr k e.symm hk))).trans (h.block k hk hs)⟩
theorem Mod.putObj {S : Nat → Prop} {a w : World} (h : Mod S a w) {r : Nat} (hr : r < a.heap.size → S r) (o : Obj) : Mod S a (w.putObj r o) :=
  ⟨h.os, h.tape, h.output, by simpa using h.size, fun k hk hs => (World.putObj_heap_other (fun e => by subst e; exact hs (hr hk))).trans (h.block k hk hs)⟩
theorem Mod.below {S : Nat → Prop} {w w' : World} (h : Mod S w w') {B : Nat} (hB : B ≤ w.heap.size) (hS : ∀ k, S k → B ≤ k) : Below B w w' :=
  ⟨h.os, h.tape, h.output, h.size, fun k hk => h.block k (by omega) (fun s => by have := hS k s; omega)⟩
theorem Mod.of_below {S : Nat → Prop} {w w' : World} {B : Nat} (h : Below B w w') (hS : ∀ k, B ≤ k → k < w.heap.size → S k) : Mod S w w' :=
  ⟨h.os, h.tape, h.output, h.size, fun k hk hs => h.block k (Nat.lt_of_not_le fun hb => hs (hS k hb hk))⟩
/-- A callee that makes memory alone. -/
theorem Mod.after {S : Nat → Prop} {a w w' : World} (h : Mod S a w) (hb : Below w.heap.size w w') : Mod S a w' :=
  h.trans (Mod.of_below hb (fun _ h1 h2 => absurd h2 (by omega)))
theorem Mod.cell {S : Nat → Prop} {w w' : World} (h : Mod S w w') {p : Addr} (hp : p.block < w.heap.size) (hs : ¬ S p.block) : w'.cell? p = w.cell? p :=
  World.cell?_of_block (h.block _ hp hs)
theorem Mod.frozen {S : Nat → Prop} {w w' : World} (h : Mod S w w') {p : Addr} (hp : p.block < w.heap.size) (hs : ¬ S p.block) : w'.frozen? p = w.frozen? p :=
  World.frozen?_of_block (h.block _ hp hs)
theorem Mod.cell_of {S : Nat → Prop} {w w' : World} (h : Mod S w w') {p : Addr} {v : Value} (hs : ¬ S p.block) (hc : w.cell? p = some v) : w'.cell? p = some v :=
  (h.cell (World.block_lt_of_cell? w p hc) hs).trans hc

/-- THE CONTRACT OF AN ITERATOR: it yields 'xs', in order; it writes S alone of what is there; it leans on S and Dt. -/
def Iter {α : Type} (P : Program) (g : Nat) (lb : Array Value) (encs : α → Array Value) (S Dt : Nat → Prop) (xs : List α) (W : World) : Prop :=
  ∀ (l : Nat) (J Jx : List α → World → Prop) (n : Nat),
    (∀ pre A B, J pre A → Mod S A B → J pre B) → (∀ pre A B, Jx pre A → Mod S A B → Jx pre B) →
    (∀ pre x rest W1, xs = pre ++ x :: rest → (∀ k, S k → k < W1.heap.size) → J pre W1 → YieldAt Fence.wide (n - 1) P l (encs x) W1 fun e W' =>
      Mod (fun k => ¬ S k ∧ ¬ Dt k) W1 W' ∧ ((e = .returned (.bool true) ∧ J (pre ++ [x]) W') ∨ (e = .returned (.bool false) ∧ Jx (pre ++ [x]) W'))) →
    J [] W →
    CallsIn Fence.wide n P g (#[.func (.yield l) #[] #[]] ++ lb) W fun e W' => (∃ v, e = .returned v) ∧ (J xs W' ∨ ∃ pre x rest, xs = pre ++ x :: rest ∧ Jx (pre ++ [x]) W')

/-- How a round's body may be left: what it wrote; the invariant at what has come. -/
def roundQ {α : Type} (T : Nat → Prop) (I : List α → World → Prop) (Ix : Code → List α → World → Prop) (pre : List α) (W : World) : Exit → Act → World → Prop
  | .normal, _, W' => Mod T W W' ∧ I pre W'
  | .ret, _, W' => Mod T W W' ∧ Ix .ret pre W'
  | .exit id, _, W' => Mod T W W' ∧ Ix (.exit id) pre W'
  | .goto t, _, W' => Mod T W W' ∧ Ix (.goto t) pre W'
  | .panic _, _, _ => False
  | .outgrown, _, _ => False

theorem wp_rangeIter {α : Type} {P : Program} {n : Nat} {g : Operand} {ps : Array Tmp} {assign body : Code} {Q : Exit → Act → World → Prop} {a : Act} {w : World}
    {gf : Nat} {lb : Array Value} (hg : a.eval g = .func (.func gf) #[] lb) (eg : ∀ args w, (callFunc gf args).run P w = .ok (.enter gf args) w)
    {encs : α → Array Value} (hps : ∀ x, (encs x).size = ps.size) {S Dt : Nat → Prop} {xs : List α}
    (hit : ∀ o o', Iter P gf lb encs S Dt xs ((w.alloc o).alloc o'))
    (hSl : ¬ S w.heap.size ∧ ¬ S (w.heap.size + 1)) (hDl : ¬ Dt w.heap.size ∧ ¬ Dt (w.heap.size + 1))
    (I : List α → World → Prop) (Ix : Code → List α → World → Prop)
    (hI : ∀ pre A B, I pre A → Mod (fun k => S k ∨ k = w.heap.size + 1) A B → I pre B) (hIx : ∀ c pre A B, Ix c pre A → Mod (fun k => S k ∨ k = w.heap.size + 1) A B → Ix c pre B)
    (h0 : I [] w)
    (hround : ∀ pre x rest W, xs = pre ++ x :: rest → (∀ k, S k → k < W.heap.size) → w.heap.size + 1 < W.heap.size → I pre W →
      assign.wpIn (Fence.wide.inRound (w.heap.size + 1)) (n - 1 - 1) P (Exit.then (fun a₁ W₁ => Mod (fun k => ¬ S k ∧ ¬ Dt k ∧ k ≠ w.heap.size ∧ k ≠ w.heap.size + 1) W W₁ ∧ ∀ W2, Mod (fun k => k = w.heap.size + 1) W₁ W2 →
        body.wpIn (Fence.wide.inRound (w.heap.size + 1)) (n - 1 - 1) P (roundQ (fun k => ¬ S k ∧ ¬ Dt k ∧ k ≠ w.heap.size ∧ k ≠ w.heap.size + 1) I Ix (pre ++ [x]) W2) a₁ W2) (fun _ _ _ => False))
        { tmps := (ps.zip (encs x)).foldl (fun t (p, v) => t.setIfInBounds p v) a.tmps, defers := [] } W)
    (hdone : ∀ W, I xs W → W.heap[w.heap.size]? = some (.deferred (some [])) → w.heap.size + 1 < W.heap.size → Q .normal { a with defers := { target := .collected w.heap.size, args := #[] } :: a.defers } W)
    (hstop : ∀ c pre x rest W, xs = pre ++ x :: rest → Ix c (pre ++ [x]) W → W.heap[w.heap.size]? = some (.deferred (some [])) → w.heap.size + 1 < W.heap.size →
      c.wpIn Fence.wide n P Q { a with defers := { target := .collected w.heap.size, args := #[] } :: a.defers } W) :
    (Code.rangeFunc g ps assign body).wpIn Fence.wide n P Q a w := by
  refine wpIn_rangeFunc ?_
  intro fn hfn
  obtain ⟨rec, hrec⟩ : ∃ rec : LoopState → Option Code → Loop, rec = fun st pe => { state := st, pending := pe, fn, tmps := a.tmps, params := ps, assign, body, defers := w.heap.size } := ⟨_, rfl⟩
  obtain ⟨W1, hW1⟩ : ∃ W1, (w.alloc (.deferred (some []))).alloc (.loop (rec .ready none)) = W1 := ⟨_, rfl⟩
  have hL1 : W1.heap[w.heap.size + 1]? = some (.loop (rec .ready none)) := by
    rw [← hW1]; have := World.alloc_heap_new (w.alloc (.deferred (some []))) (.loop (rec .ready none)); rwa [World.size_alloc] at this
  have hK1 : W1.heap[w.heap.size]? = some (.deferred (some [])) := by
    rw [← hW1]; exact (Below.heap_alloc _ _ _ (by simp)).trans (World.alloc_heap_new w _)
  have hI1 : I [] W1 := by rw [← hW1]; exact hI _ _ _ h0 (((Mod.refl _ w).alloc _).alloc _)
  have hitW : Iter P gf lb encs S Dt xs W1 := by rw [← hW1]; exact hit _ _
  refine ⟨w.heap.size + 1, [{ target := .collected w.heap.size, args := #[] }], W1, { target := .fn (.func gf) lb, args := #[.func (.yield (w.heap.size + 1)) #[] #[]] }, W1, gf,
    #[.func (.yield (w.heap.size + 1)) #[] #[]] ++ lb, W1, ?_, ?_, fun _ _ => trivial, ?_, (fun h => by cases h), ?_⟩
  · rw [← hW1, hrec]; exact run_enterLoop_outer _ _ _ _ _
  · simp only [resolve, hg]
    simp [go_sem]
  · simp [invoke, go_sem, eg]
  · have keep : ∀ {A B : World} {o : Obj} {r : Nat}, Mod S A B → ¬ S r → A.heap[r]? = some o → B.heap[r]? = some o := fun h hs ho => (h.block _ (Array.getElem?_eq_some_iff.1 ho).1 hs).trans ho
    refine (hitW (w.heap.size + 1)
      (fun pre W => I pre W ∧ W.heap[w.heap.size + 1]? = some (.loop (rec .ready none)) ∧ W.heap[w.heap.size]? = some (.deferred (some [])))
      (fun pre W => ∃ c, Ix c pre W ∧ W.heap[w.heap.size + 1]? = some (.loop (rec .done (some c))) ∧ W.heap[w.heap.size]? = some (.deferred (some [])))
      (n - 1)
      (fun pre A B h hm => ⟨hI _ _ _ h.1 (hm.mono fun _ _ s => .inl s), keep hm hSl.2 h.2.1, keep hm hSl.1 h.2.2⟩)
      (fun pre A B ⟨c, h, h1, h2⟩ hm => ⟨c, hIx _ _ _ _ h (hm.mono fun _ _ s => .inl s), keep hm hSl.2 h1, keep hm hSl.1 h2⟩)
      ?_ ⟨hI1, hL1, hK1⟩).mono ?_
    · rintro pre x rest W hx hSW ⟨hi, hl, hk⟩
      have hlt : w.heap.size + 1 < W.heap.size := (Array.getElem?_eq_some_iff.1 hl).1
      have hy := run_yield (P := P) (args := encs x) hl (by rw [hrec]; exact hps x)
      rw [hrec] at hy
      refine ⟨fn, _, assign, body, hy, roundIn_of_wpIn hfn (wpIn_mono (hround pre x rest W hx hSW hlt hi) ?_)⟩
      rintro e a₁ Wa hp
      cases e with
      | normal =>
        obtain ⟨hm, hb⟩ := hp
        have hla : Wa.heap[w.heap.size + 1]? = some (.loop (rec .ready none)) := (hm.block _ hlt (fun h => h.2.2.2 rfl)).trans hl
        have hka : Wa.heap[w.heap.size]? = some (.deferred (some [])) := (hm.block _ (by omega) (fun h => h.2.2.1 rfl)).trans hk
        have hlta : w.heap.size + 1 < Wa.heap.size := (Array.getElem?_eq_some_iff.1 hla).1
        refine ⟨_, run_beginRound hla (by rw [hrec]), ?_⟩
        have hl2 : (Wa.putObj (w.heap.size + 1) (.loop { rec .ready none with state := .busy })).heap[w.heap.size + 1]? = some (.loop { rec .ready none with state := .busy }) := World.putObj_heap_same hlta
        have hk2 : (Wa.putObj (w.heap.size + 1) (.loop { rec .ready none with state := .busy })).heap[w.heap.size]? = some (.deferred (some [])) := (World.putObj_heap_other (by omega)).trans hka
        have hm2 : Mod (fun k => k = w.heap.size + 1) Wa (Wa.putObj (w.heap.size + 1) (.loop { rec .ready none with state := .busy })) := Mod.putObj (Mod.refl (fun k => k = w.heap.size + 1) Wa) (fun _ => rfl) _
        refine wpIn_mono (hb _ hm2) ?_
        have fin : ∀ (jump : Option Code) (W3 : World), Mod (fun k => ¬ S k ∧ ¬ Dt k ∧ k ≠ w.heap.size ∧ k ≠ w.heap.size + 1) (Wa.putObj (w.heap.size + 1) (.loop { rec .ready none with state := .busy })) W3 →
            (Instr.endRound (w.heap.size + 1) jump).run P W3 = .ok (.bool jump.isNone) (W3.putObj (w.heap.size + 1) (.loop (rec (if jump.isNone then .ready else .done) jump))) ∧
            (W3.putObj (w.heap.size + 1) (.loop (rec (if jump.isNone then .ready else .done) jump))).heap[w.heap.size + 1]? = some (.loop (rec (if jump.isNone then .ready else .done) jump)) ∧
            (W3.putObj (w.heap.size + 1) (.loop (rec (if jump.isNone then .ready else .done) jump))).heap[w.heap.size]? = some (.deferred (some [])) ∧
            Mod (fun k => ¬ S k ∧ ¬ Dt k) W (W3.putObj (w.heap.size + 1) (.loop (rec (if jump.isNone then .ready else .done) jump))) ∧
            Mod (fun k => S k ∨ k = w.heap.size + 1) W3 (W3.putObj (w.heap.size + 1) (.loop (rec (if jump.isNone then .ready else .done) jump))) := fun jump W3 hm3 => by
          have hl3 : W3.heap[w.heap.size + 1]? = some (.loop { rec .ready none with state := .busy }) := (hm3.block _ (by simpa using hlta) (fun h => h.2.2.2 rfl)).trans hl2
          have hk3 : W3.heap[w.heap.size]? = some (.deferred (some [])) := (hm3.block _ (by simp; omega) (fun h => h.2.2.1 rfl)).trans hk2
          have := run_endRound (P := P) jump hl3
          rw [hrec] at this ⊢
          refine ⟨this, World.putObj_heap_same (Array.getElem?_eq_some_iff.1 hl3).1, (World.putObj_heap_other (by omega)).trans hk3, ?_, (Mod.refl _ W3).putObj (fun _ => .inr rfl) _⟩
          refine Mod.putObj ?_ (fun _ => ⟨hSl.2, hDl.2⟩) _
          rw [hrec] at hm2 hm3
          exact (hm.mono fun k _ s => ⟨s.1, s.2.1⟩).trans ((hm2.mono fun k _ s => by subst s; exact ⟨hSl.2, hDl.2⟩).trans (hm3.mono fun k _ s => ⟨s.1, s.2.1⟩))
        rintro e a3 W3 hp
        cases e with
        | normal =>
          obtain ⟨hm3, hi3⟩ := hp
          obtain ⟨hr, hl4, hk4, hT, hS⟩ := fin none W3 hm3
          exact ⟨_, _, hr, hT, .inl ⟨rfl, hI _ _ _ hi3 hS, hl4, hk4⟩⟩
        | ret =>
          obtain ⟨hm3, hi3⟩ := hp
          obtain ⟨hr, hl4, hk4, hT, hS⟩ := fin (some .ret) W3 hm3
          exact ⟨_, _, hr, hT, .inr ⟨rfl, .ret, hIx _ _ _ _ hi3 hS, hl4, hk4⟩⟩
        | exit id =>
          obtain ⟨hm3, hi3⟩ := hp
          obtain ⟨hr, hl4, hk4, hT, hS⟩ := fin (some (.exit id)) W3 hm3
          exact ⟨_, _, hr, hT, .inr ⟨rfl, .exit id, hIx _ _ _ _ hi3 hS, hl4, hk4⟩⟩
        | goto t =>
          obtain ⟨hm3, hi3⟩ := hp
          obtain ⟨hr, hl4, hk4, hT, hS⟩ := fin (some (.goto t)) W3 hm3
          exact ⟨_, _, hr, hT, .inr ⟨rfl, .goto t, hIx _ _ _ _ hi3 hS, hl4, hk4⟩⟩
        | panic ch => exact hp.elim
        | outgrown => exact hp.elim
      | exit id => exact hp.elim
      | goto t => exact hp.elim
      | ret => exact hp.elim
      | panic ch => exact hp.elim
      | outgrown => exact hp.elim
    · rintro e W2 ⟨⟨v, rfl⟩, (⟨hi, hl, hk⟩ | ⟨pre, x, rest, hx, c, hi, hl, hk⟩)⟩
      · have hlt : w.heap.size + 1 < W2.heap.size := (Array.getElem?_eq_some_iff.1 hl).1
        exact ⟨none, _, by have := run_endLoop (P := P) hl (by rw [hrec]; simp); rw [hrec] at this; exact this,
          hdone _ (hI _ _ _ hi ((Mod.refl _ W2).putObj (fun _ => .inr rfl) _)) ((World.putObj_heap_other (by omega)).trans hk) (by simpa using hlt)⟩
      · have hlt : w.heap.size + 1 < W2.heap.size := (Array.getElem?_eq_some_iff.1 hl).1
        exact ⟨some c, _, by have := run_endLoop (P := P) hl (by rw [hrec]; simp); rw [hrec] at this; exact this,
          hstop c pre x rest _ hx (hIx _ _ _ _ hi ((Mod.refl _ W2).putObj (fun _ => .inr rfl) _)) ((World.putObj_heap_other (by omega)).trans hk) (by simpa using hlt)⟩

/-- A call met in a fenced walk at the wide fence; and in a round there. -/
theorem callW {P : Program} {f : FuncId} {args : Array Value} {w : World} {R R' : Ending → World → Prop} {n : Nat} (h : Calls P f args w R) (hr : ∀ e w', R e w' → R' e w') :
    Fence.wide.fn f ∧ (Fence.wide.depth.isSome = true → 1 ≤ n) ∧ CallsIn Fence.wide (n - 1) P f args w R' :=
  ⟨trivial, (fun hx => by cases hx), (callsIn_wide.2 h).mono hr⟩
theorem callR {P : Program} {f : FuncId} {args : Array Value} {w : World} {R R' : Ending → World → Prop} {n l : Nat} (h : Calls P f args w R) (hr : ∀ e w', R e w' → R' e w') :
    (Fence.wide.inRound l).fn f ∧ ((Fence.wide.inRound l).depth.isSome = true → 1 ≤ n) ∧ CallsIn (Fence.wide.inRound l) (n - 1) P f args w R' :=
  ⟨trivial, (fun hx => by cases hx), CallsIn.inRound l ((callsIn_wide.2 h).mono hr)⟩
theorem bt {a b c : World} (h : Below a.heap.size a b) (k : Below b.heap.size b c) : Below a.heap.size a c := h.trans (k.mono h.size)
theorem below_putObj {B : Nat} {a w : World} (h : Below B a w) {r : Nat} (hr : B ≤ r) (o : Obj) : Below B a (w.putObj r o) :=
  h.trans ⟨rfl, rfl, rfl, by simp, fun k hk => World.putObj_heap_other (by omega)⟩
theorem cellN (w : World) (v : Value) (t : TypeId) : (w.alloc (.cells #[v] t)).cell? ⟨w.heap.size, 0, none⟩ = some v ∧ (w.alloc (.cells #[v] t)).frozen? ⟨w.heap.size, 0, none⟩ = false :=
  ⟨by simp, by simp⟩
theorem cellA {w : World} {a : Addr} {v : Value} (o : Obj) (h : w.cell? a = some v) : (w.alloc o).cell? a = some v := (World.cell?_alloc_lt w o a (World.block_lt_of_cell? w a h)).trans h
theorem frozA {w : World} {a : Addr} {v : Value} (o : Obj) (h : w.cell? a = some v) (hf : w.frozen? a = false) : (w.alloc o).frozen? a = false := (World.frozen?_alloc_old w o a (Nat.ne_of_lt (World.block_lt_of_cell? w a h))).trans hf
theorem putObj_cell {w : World} {r : Nat} {o : Obj} {p : Addr} (h : p.block ≠ r) : (w.putObj r o).cell? p = w.cell? p := World.cell?_of_block (World.putObj_heap_other h)
theorem setCell_heap {w : World} {p : Addr} {v : Value} {k : Nat} {o : Obj} (h : w.heap[k]? = some o) (hk : k ≠ p.block) : (w.setCell p v).heap[k]? = some o := (Below.heap_setCell _ _ _ _ hk).trans h
theorem calls_of_all {P : Program} {f : FuncId} {args : Array Value} {w : World} {R : Ending → World → Prop} (h : ∀ n, CallsIn Fence.wide n P f args w R) : Calls P f args w R := callsIn_wide.1 (h 0)
theorem wideN (n : Nat) : Fence.wide.depth.isSome = true → 1 ≤ n := fun hx => by cases hx

end Go.Proofs.Ytpbmeeogledmdae
namespace Go.Proofs.Ytpbmeeogledmdae
open Go.RowKit

theorem setRow_alloc (w : World) (c c' : Array Value) (t : TypeId) : (w.alloc (.cells c t)).setRow w.heap.size c' = w.alloc (.cells c' t) := by
  have hm : ∀ (a : Array Obj) (x : Obj) (f : Obj → Obj), (a.push x).modify a.size f = a.push (f x) := by
    intro a x f
    apply Array.ext
    · simp
    · intro i h1 h2
      simp only [Array.getElem_modify, Array.getElem_push]
      by_cases h : a.size = i
      · subst h; simp
      · have hi : i < a.size := by simp at h1; omega
        simp [h, hi]
  show ({ w.alloc (.cells c t) with heap := (w.heap.push (.cells c t)).modify w.heap.size _ } : World) = _
  rw [hm]
  rfl

/-- 'copy(dst, s)', s a string: as many bytes as the shorter of the two has go over. -/
theorem run_copy_string_row {P : Program} (w : World) (dT sT ty elem : TypeId) (g o dLen dCap : Nat) (s : ByteArray) (cur : Array Value) (t : TypeId) (n : Nat)
    (hu : P.underlying dT = some (.slice elem)) (hs : (P.info? elem).map (·.size) = some 1) (hg : w.heap[g]? = some (.cells cur t (0, 0))) (hn : Nat.min s.size dLen = n) (hfit : o + n ≤ cur.size) :
    (Builtin.copy_ #[dT, sT] ty #[.slice (some ⟨g, o, none⟩) dLen dCap, .string s]).run P w =
      .ok (goInt n) (w.setRow g (cur.toList.take o ++ Lib.byteCells (s.data.toList.take n) ++ cur.toList.drop (o + n)).toArray) := by
  have hns : n ≤ s.size := hn ▸ Nat.min_le_left _ _
  have hlen : (Lib.byteCells (s.data.toList.take n)).length = n := by rw [Lib.byteCells_length, List.length_take, ← Lib.size_eq]; omega
  have hst := run_storeCells_at P g o t (Lib.byteCells (s.data.toList.take n)) 0 cur w hg (by rw [hlen]; simpa using hfit) (Lib.byteCells_one _)
  have htk : List.take n (List.map (fun b : UInt8 => Value.int IntKind.u8 (b.toNat : Int)) s.data.toList) = Lib.byteCells (s.data.toList.take n) := by
    rw [← List.map_take]; rfl
  rw [hlen] at hst
  simp only [Nat.add_zero] at hst
  cases hq : P.info? elem with
  | none => simp [hq] at hs
  | some i =>
    simp [Builtin.copy_, run_underlying hu, Builtin.lenOf, Builtin.firstCells, sizeOf, typeInfo, hq, hn]
    rw [htk, hst]
    simp [Result.andThen]

/-- The same where the whole of a block that was just laid is written over. -/
theorem run_copy_string_new {P : Program} (w : World) (dT sT ty elem : TypeId) (dCap : Nat) (s : ByteArray) (cur : Array Value) (t : TypeId)
    (hu : P.underlying dT = some (.slice elem)) (hs : (P.info? elem).map (·.size) = some 1) (hn : cur.size ≤ s.size) :
    (Builtin.copy_ #[dT, sT] ty #[.slice (some ⟨w.heap.size, 0, none⟩) cur.size dCap, .string s]).run P (w.alloc (.cells cur t)) =
      .ok (goInt cur.size) (w.alloc (.cells (Lib.byteCells (s.data.toList.take cur.size)).toArray t)) := by
  rw [run_copy_string_row (w.alloc (.cells cur t)) dT sT ty elem w.heap.size 0 cur.size dCap s cur t cur.size hu hs (World.alloc_heap_new w _) (Nat.min_eq_right hn) (by simp), setRow_alloc, List.drop_eq_nil_of_le (by simp)]
  simp

theorem take3 (s : ByteArray) (h : 3 ≤ s.size) : (Lib.byteCells (s.data.toList.take 3)).toArray = #[.int .u8 s[0].toNat, .int .u8 s[1].toNat, .int .u8 s[2].toNat] := by
  have e : s.data.toList.take 3 = [s[0], s[1], s[2]] := by
    have h' : 3 ≤ s.data.toList.length := by simpa using h
    apply List.ext_getElem
    · simp; omega
    · intro i h1 h2
      simp at h2
      rcases i with _ | _ | _ | i <;> simp <;> first | rfl | omega
  rw [e]; rfl

theorem toList_nil {s : ByteArray} (h : s.size = 0) : s.toList = [] := by
  rw [ByteArray.toList_eq]; apply List.eq_nil_of_length_eq_zero; simpa using h
theorem toList_cons {s : ByteArray} (h : ¬ s.size = 0) : s.toList.isEmpty = false := by
  rw [ByteArray.toList_eq]
  cases e : s.data.toList with
  | nil => exfalso; apply h; have := congrArg List.length e; simpa using this
  | cons a l => rfl

/-- 'b << 8 | c' of two bytes. -/
theorem or_i64_byte (b c : Int) (hb : 0 ≤ b ∧ b < 256) (hc : 0 ≤ c ∧ c < 256) : bits .or .i64 (b * 256) c = b * 256 + c := by
  obtain ⟨B, rfl⟩ := Int.eq_ofNat_of_zero_le hb.1
  obtain ⟨C, rfl⟩ := Int.eq_ofNat_of_zero_le hc.1
  have e : ((B : Int) * 256) = ((B * 256 : Nat) : Int) := by omega
  show IntKind.i64.wrap ((BitVec.ofInt 64 ((B : Int) * 256) ||| BitVec.ofInt 64 (C : Int)).toNat : Int) = _
  rw [e, BitVec.toNat_or, ofInt_u64 _ (by omega), ofInt_u64 _ (by omega)]
  have h := nat_join8' (B * 256) C (by omega) (by omega)
  rw [Nat.or_comm, h, IntWalk.i64_in _ (by omega)]
  omega

end Go.Proofs.Ytpbmeeogledmdae
namespace Go.Proofs.Ytpbmeeogledmdae
open Go.RowKit

/-- The worlds that come after w0, S alone being otherwise. -/
structure Later (S : Nat → Prop) (w0 : World) where
  val : World
  mod : Mod S w0 val

instance (S : Nat → Prop) (w0 : World) : Nonempty (Later S w0) := ⟨⟨w0, Mod.refl _ _⟩⟩

theorem wp_region_later {P : Program} {id : Nat} {Q : Exit → Act → World → Prop} {a : Act} {w w0 : World} {S : Nat → Prop} {l : List Oper} (hw : Mod S w0 w) (hm : P.follows .mixedOrders = true) (hB : Region.lexB .any l.toArray = true)
    (h : wpQuiet P l.toArray (fun w' => ∃ x : Later S w0, w' = x.val) (fun a' => ∀ w', (∃ x : Later S w0, w' = x.val) → Q .normal a' w') l a) : (Code.region id l.toArray true).wp P Q a w :=
  wp_region_quiet (C := fun w' => ∃ x : Later S w0, w' = x.val) hm hB ⟨⟨w.drew, hw.drew⟩, rfl⟩ (by simpa using h)

section
variable {P : Program} {ops : Array Oper} {C : World → Prop} {F : Fence} {n : Nat}

theorem Oper.wpIn_of_quiet (hF : ∀ f, F.fn f) (hd : F.depth = none) (hcall : ∀ {f : FuncId} {args : Array Value} {w : World} {R : Ending → World → Prop}, Calls P f args w R → CallsIn F (n - 1) P f args w R)
    {o : Oper} {a : Act} {K : Act → Prop} {K' : Act → World → Prop} {Q' : Exit → Act → World → Prop} {w : World} (hw : C w) (h : ∀ a w', C w' → K a → K' a w') (hh : o.quiet P a C K) : o.wpIn F n P a w K' Q' := by
  obtain ⟨v, h1, h2⟩ := hh
  have h3 := h1 w hw
  unfold Oper.quietAt at h3
  unfold Oper.wpIn
  refine ⟨fun f _ => hF f, ?_⟩
  have hnd : ∀ c, o.op ≠ .defer c := by
    intro c hc
    simp only [execOp, hc, Sem.run_bind] at h3
    cases hr : (resolve a.eval c o.type).run P w with
    | ok d w' => simp [hr, Result.andThen, Oper.quietUpon] at h3
    | halt x w' => simp [hr, Result.andThen, Oper.quietUpon] at h3
  rw [Oper.semAt_eq _ _ _ hnd]
  generalize (execOp a.eval o).run P w = r at *
  cases r with
  | ok m w' =>
    cases m <;> simp only [Oper.quietUpon] at h3 <;> simp only [Oper.uponIn]
    case value u =>
      obtain ⟨e1, e2⟩ := h3
      rw [e1, e2]
      exact h _ _ hw h2
    case skip =>
      obtain ⟨e1, e2⟩ := h3
      rw [e1, ← e2]
      exact h _ _ hw h2
    case enter f args =>
      obtain ⟨e1, hc⟩ := h3
      rw [e1]
      exact ⟨(fun hx => by rw [hd] at hx; cases hx), (hcall hc).mono fun e w'' ⟨he, hw''⟩ => by subst he; exact h _ _ hw'' h2⟩
  | halt x w' => simp only [Oper.quietUpon] at h3

theorem wpOpIn_of_qOp (hF : ∀ f, F.fn f) (hd : F.depth = none) (hcall : ∀ {f : FuncId} {args : Array Value} {w : World} {R : Ending → World → Prop}, Calls P f args w R → CallsIn F (n - 1) P f args w R)
    {i : Nat} {a : Act} {K : Act → Prop} {K' : Act → World → Prop} {Q' : Exit → Act → World → Prop} {w : World} (hC : C w) (h : ∀ a w', C w' → K a → K' a w') (hh : qOp P ops C i K a) : wpOpIn F n P ops Q' i K' a w := by
  unfold qOp at hh
  unfold wpOpIn
  split
  · rename_i ho; simp only [ho] at hh; exact h _ _ hC hh
  · rename_i o ho
    simp only [ho] at hh
    split
    · rename_i hw; simp only [hw, if_true] at hh; exact Oper.wpIn_of_quiet hF hd hcall hC h hh
    · rename_i hw; simp only [hw] at hh; exact ⟨fun f _ => hF f, h _ _ hC hh⟩

theorem wpAnyIn_of_quiet (hF : ∀ f, F.fn f) (hd : F.depth = none) (hcall : ∀ {f : FuncId} {args : Array Value} {w : World} {R : Ending → World → Prop}, Calls P f args w R → CallsIn F (n - 1) P f args w R)
    {md : Region.Mode} {Q : Act → Prop} {Q' : Exit → Act → World → Prop} (hQ : ∀ a w, C w → Q a → Q' .normal a w) : ∀ (fuel : Nat) (listed : Array Bool) (a : Act) (w : World), C w →
    wpAnyQ P md ops C Q fuel listed a → wpAnyIn F n P md ops Q' fuel listed a w
  | 0, _, _, _, hw, h => ⟨h.1, hQ _ _ hw h.2⟩
  | fuel + 1, _, _, _, hw, h => ⟨fun h0 => hQ _ _ hw (h.1 h0), fun i hi => wpOpIn_of_qOp hF hd hcall hw (fun a' w' hw' => wpAnyIn_of_quiet hF hd hcall hQ fuel _ a' w' hw') (h.2 i hi)⟩

theorem wpIn_region_quiet (hF : ∀ f, F.fn f) (hd : F.depth = none) (hcall : ∀ {f : FuncId} {args : Array Value} {w : World} {R : Ending → World → Prop}, Calls P f args w R → CallsIn F (n - 1) P f args w R)
    {id : Nat} {Q : Exit → Act → World → Prop} {a : Act} {w : World} (hm : P.follows .mixedOrders = true) (hB : Region.lexB .any ops = true) (hC : C { w with drawn := w.drawn + 1 })
    (h : wpQuiet P ops C (fun a' => ∀ w', C w' → Q .normal a' w') ops.toList a) : (Code.region id ops true).wpIn F n P Q a w := by
  simp only [Region.lexB, Bool.and_eq_true] at hB
  refine wpIn_region_any hm (wpAnyIn_of_quiet hF hd hcall (Q := fun a' => ∀ w', C w' → Q .normal a' w') (fun _ w' hw' h => h w' hw') _ _ _ _ hC ?_)
  have := wpAnyQ_lex (C := C) (md := .any) hB.1 ops.toList 0 (Array.replicate ops.size false) a (by simp) (by simpa using hB.2) h
  simpa using this
end

/-- Inside a function that holds a range over a function: outside its rounds. -/
theorem wpIn_region_later {P : Program} {n id : Nat} {Q : Exit → Act → World → Prop} {a : Act} {w w0 : World} {S : Nat → Prop} {l : List Oper} (hw : Mod S w0 w) (hm : P.follows .mixedOrders = true) (hB : Region.lexB .any l.toArray = true)
    (h : wpQuiet P l.toArray (fun w' => ∃ x : Later S w0, w' = x.val) (fun a' => ∀ w', (∃ x : Later S w0, w' = x.val) → Q .normal a' w') l a) : (Code.region id l.toArray true).wpIn Fence.wide n P Q a w :=
  wpIn_region_quiet (fun _ => trivial) rfl (fun h => callsIn_wide.2 h) (C := fun w' => ∃ x : Later S w0, w' = x.val) hm hB ⟨⟨w.drew, hw.drew⟩, rfl⟩ (by simpa using h)

/-- In a round. -/
theorem wpIn_region_round {P : Program} {n id l₀ : Nat} {Q : Exit → Act → World → Prop} {a : Act} {w w0 : World} {S : Nat → Prop} {l : List Oper} (hw : Mod S w0 w) (hm : P.follows .mixedOrders = true) (hB : Region.lexB .any l.toArray = true)
    (h : wpQuiet P l.toArray (fun w' => ∃ x : Later S w0, w' = x.val) (fun a' => ∀ w', (∃ x : Later S w0, w' = x.val) → Q .normal a' w') l a) : (Code.region id l.toArray true).wpIn (Fence.wide.inRound l₀) n P Q a w :=
  wpIn_region_quiet (fun _ => trivial) rfl (fun h => CallsIn.inRound l₀ (callsIn_wide.2 h)) (C := fun w' => ∃ x : Later S w0, w' = x.val) hm hB ⟨⟨w.drew, hw.drew⟩, rfl⟩ (by simpa using h)

/-- A callee that makes memory alone, met in such a region. -/
theorem Calls.later {P : Program} {f : FuncId} {args : Array Value} {S : Nat → Prop} {w0 : World} {x : Later S w0} {v : Value}
    (h : Calls P f args x.val fun e w' => e = .returned v ∧ Below x.val.heap.size x.val w') : Calls P f args x.val fun e w'' => e = .returned v ∧ ∃ y : Later S w0, w'' = y.val :=
  h.mono fun _ w' ⟨he, hb⟩ => ⟨he, ⟨w', x.mod.after hb⟩, rfl⟩

theorem Later.cell {S : Nat → Prop} {w0 : World} {p : Addr} {v : Value} (h : w0.cell? p = some v) (hs : ¬ S p.block) (x : Later S w0) : x.val.cell? p = some v := x.mod.cell_of hs h

end Go.Proofs.Ytpbmeeogledmdae
namespace Go.Proofs.Ytpbmeeogledmdae
open Go.RowKit

/-- a block of the heap, nothing of it frozen -/
def Blk (w : World) (b : Nat) (C : Array Value) (t : TypeId) : Prop := w.heap[b]? = some (.cells C t (0, 0))
theorem Blk.lt {w : World} {b : Nat} {C : Array Value} {t : TypeId} (h : Blk w b C t) : b < w.heap.size := by
  rcases Nat.lt_or_ge b w.heap.size with g | g
  · exact g
  · unfold Blk at h; rw [Array.getElem?_eq_none g] at h; cases h
theorem Blk.cell {w : World} {b : Nat} {C : Array Value} {t : TypeId} (h : Blk w b C t) {i : Nat} {v : Value} (hv : C[i]? = some v) : w.cell? ⟨b, i, none⟩ = some v := by
  unfold Blk at h; simp [World.cell?, h, hv]
theorem Blk.froz {w : World} {b : Nat} {C : Array Value} {t : TypeId} (h : Blk w b C t) (i : Nat) : w.frozen? ⟨b, i, none⟩ = false := by
  unfold Blk at h; simp [World.frozen?, h]
theorem Blk.set {w : World} {b : Nat} {C : Array Value} {t : TypeId} (h : Blk w b C t) (i : Nat) (v : Value) : Blk (w.setCell ⟨b, i, none⟩ v) b (C.setIfInBounds i v) t := by
  unfold Blk at h ⊢
  show (w.heap.modify b _)[b]? = _
  rw [Array.getElem?_modify]
  simp [h]
theorem Blk.other {w : World} {b : Nat} {C : Array Value} {t : TypeId} (h : Blk w b C t) {p : Addr} (hp : b ≠ p.block) (v : Value) : Blk (w.setCell p v) b C t := setCell_heap h hp
theorem Blk.alloc {w : World} {b : Nat} {C : Array Value} {t : TypeId} (h : Blk w b C t) (o : Obj) : Blk (w.alloc o) b C t := (Below.heap_alloc w o b h.lt).trans h
theorem Blk.new (w : World) (C : Array Value) (t : TypeId) : Blk (w.alloc (.cells C t)) w.heap.size C t := World.alloc_heap_new w _
theorem Blk.new' (w : World) (o : Obj) (C : Array Value) (t : TypeId) : Blk ((w.alloc o).alloc (.cells C t)) (w.heap.size + 1) C t := by
  have h := Blk.new (w.alloc o) C t
  have e : (w.alloc o).heap.size = w.heap.size + 1 := by show (w.heap.push _).size = _; simp
  rwa [e] at h
theorem Blk.drew {w : World} {b : Nat} {C : Array Value} {t : TypeId} (h : Blk w b C t) : Blk w.drew b C t := h
theorem Blk.mod {w w' : World} {b : Nat} {C : Array Value} {t : TypeId} (h : Blk w b C t) {S : Nat → Prop} (hm : Mod S w w') (hs : ¬ S b) : Blk w' b C t := (hm.block b h.lt hs).trans h

end Go.Proofs.Ytpbmeeogledmdae
