/-
  Generic lemmas, of no program: a region that draws its order, whose operations read, and call what leaves the blocks that were there alone (but for a set S): one walk in the order of the text, at the class of all later worlds; in a plain walk, and inside a fence.
-/
import Derived.Test.YtcdpiemkbefcoaaBase
import Derived.OrdersIn
namespace Go.Proofs.Ytcdpiemkbefcoaa
open Go.RowKit

/-- The worlds that come after w0, S alone being otherwise. -/
structure Later (S : Nat → Prop) (w0 : World) where
  val : World
  mod : Mod S w0 val

instance (S : Nat → Prop) (w0 : World) : Nonempty (Later S w0) := ⟨⟨w0, Mod.refl _ _⟩⟩

theorem wp_region_later {P : Program} {id : Nat} {Q : Exit → Act → World → Prop} {a : Act} {w w0 : World} {S : Nat → Prop} {l : List Oper} (hw : Mod S w0 w) (hm : P.follows .mixedOrders = true) (hB : Region.lexB .any l.toArray = true)
    (h : wpQuiet P l.toArray (fun w' => ∃ x : Later S w0, w' = x.val) (fun a' => ∀ w', (∃ x : Later S w0, w' = x.val) → Q .normal a' w') l a) : (Code.region id l.toArray true).wp P Q a w :=
  wp_region_quiet (C := fun w' => ∃ x : Later S w0, w' = x.val) hm hB ⟨⟨w.drew, hw.drew⟩, rfl⟩ (by simpa using h)

section
variable {P : Program} {ops : Array Oper} {C : World → Prop} {F : Fence} {n : Nat}

theorem Oper.wpIn_of_quiet (hF : ∀ f, F.fn f) (hd : F.depth = none) (hcall : ∀ {f : FuncId} {args : Array Value} {w : World} {R : Ending → World → Prop}, Calls P f args w R → CallsIn F (n - 1) P f args w R)
    {o : Oper} {a : Act} {K : Act → Prop} {K' : Act → World → Prop} {Q' : Exit → Act → World → Prop} {w : World} (hw : C w) (h : ∀ a w', C w' → K a → K' a w') (hh : o.quiet P a C K) : o.wpIn F n P a w K' Q' := by
  obtain ⟨v, h1, h2⟩ := hh
  have h3 := h1 w hw
  unfold Oper.quietAt at h3
  unfold Oper.wpIn
  refine ⟨fun f _ => hF f, ?_⟩
  have hnd : ∀ c, o.op ≠ .defer c := by
    intro c hc
    simp only [execOp, hc, Sem.run_bind] at h3
    cases hr : (resolve a.eval c o.type).run P w with
    | ok d w' => simp [hr, Result.andThen, Oper.quietUpon] at h3
    | halt x w' => simp [hr, Result.andThen, Oper.quietUpon] at h3
  rw [Oper.semAt_eq _ _ _ hnd]
  generalize (execOp a.eval o).run P w = r at *
  cases r with
  | ok m w' =>
    cases m <;> simp only [Oper.quietUpon] at h3 <;> simp only [Oper.uponIn]
    case value u =>
      obtain ⟨e1, e2⟩ := h3
      rw [e1, e2]
      exact h _ _ hw h2
    case skip =>
      obtain ⟨e1, e2⟩ := h3
      rw [e1, ← e2]
      exact h _ _ hw h2
    case enter f args =>
      obtain ⟨e1, hc⟩ := h3
      rw [e1]
      exact ⟨(fun hx => by rw [hd] at hx; cases hx), (hcall hc).mono fun e w'' ⟨he, hw''⟩ => by subst he; exact h _ _ hw'' h2⟩
  | halt x w' => simp only [Oper.quietUpon] at h3

theorem wpOpIn_of_qOp (hF : ∀ f, F.fn f) (hd : F.depth = none) (hcall : ∀ {f : FuncId} {args : Array Value} {w : World} {R : Ending → World → Prop}, Calls P f args w R → CallsIn F (n - 1) P f args w R)
    {i : Nat} {a : Act} {K : Act → Prop} {K' : Act → World → Prop} {Q' : Exit → Act → World → Prop} {w : World} (hC : C w) (h : ∀ a w', C w' → K a → K' a w') (hh : qOp P ops C i K a) : wpOpIn F n P ops Q' i K' a w := by
  unfold qOp at hh
  unfold wpOpIn
  split
  · rename_i ho; simp only [ho] at hh; exact h _ _ hC hh
  · rename_i o ho
    simp only [ho] at hh
    split
    · rename_i hw; simp only [hw, if_true] at hh; exact Oper.wpIn_of_quiet hF hd hcall hC h hh
    · rename_i hw; simp only [hw] at hh; exact ⟨fun f _ => hF f, h _ _ hC hh⟩

theorem wpAnyIn_of_quiet (hF : ∀ f, F.fn f) (hd : F.depth = none) (hcall : ∀ {f : FuncId} {args : Array Value} {w : World} {R : Ending → World → Prop}, Calls P f args w R → CallsIn F (n - 1) P f args w R)
    {md : Region.Mode} {Q : Act → Prop} {Q' : Exit → Act → World → Prop} (hQ : ∀ a w, C w → Q a → Q' .normal a w) : ∀ (fuel : Nat) (listed : Array Bool) (a : Act) (w : World), C w →
    wpAnyQ P md ops C Q fuel listed a → wpAnyIn F n P md ops Q' fuel listed a w
  | 0, _, _, _, hw, h => ⟨h.1, hQ _ _ hw h.2⟩
  | fuel + 1, _, _, _, hw, h => ⟨fun h0 => hQ _ _ hw (h.1 h0), fun i hi => wpOpIn_of_qOp hF hd hcall hw (fun a' w' hw' => wpAnyIn_of_quiet hF hd hcall hQ fuel _ a' w' hw') (h.2 i hi)⟩

theorem wpIn_region_quiet (hF : ∀ f, F.fn f) (hd : F.depth = none) (hcall : ∀ {f : FuncId} {args : Array Value} {w : World} {R : Ending → World → Prop}, Calls P f args w R → CallsIn F (n - 1) P f args w R)
    {id : Nat} {Q : Exit → Act → World → Prop} {a : Act} {w : World} (hm : P.follows .mixedOrders = true) (hB : Region.lexB .any ops = true) (hC : C { w with drawn := w.drawn + 1 })
    (h : wpQuiet P ops C (fun a' => ∀ w', C w' → Q .normal a' w') ops.toList a) : (Code.region id ops true).wpIn F n P Q a w := by
  simp only [Region.lexB, Bool.and_eq_true] at hB
  refine wpIn_region_any hm (wpAnyIn_of_quiet hF hd hcall (Q := fun a' => ∀ w', C w' → Q .normal a' w') (fun _ w' hw' h => h w' hw') _ _ _ _ hC ?_)
  have := wpAnyQ_lex (C := C) (md := .any) hB.1 ops.toList 0 (Array.replicate ops.size false) a (by simp) (by simpa using hB.2) h
  simpa using this
end

/-- Inside a function that holds a range over a function: outside its rounds. -/
theorem wpIn_region_later {P : Program} {n id : Nat} {Q : Exit → Act → World → Prop} {a : Act} {w w0 : World} {S : Nat → Prop} {l : List Oper} (hw : Mod S w0 w) (hm : P.follows .mixedOrders = true) (hB : Region.lexB .any l.toArray = true)
    (h : wpQuiet P l.toArray (fun w' => ∃ x : Later S w0, w' = x.val) (fun a' => ∀ w', (∃ x : Later S w0, w' = x.val) → Q .normal a' w') l a) : (Code.region id l.toArray true).wpIn Fence.wide n P Q a w :=
  wpIn_region_quiet (fun _ => trivial) rfl (fun h => callsIn_wide.2 h) (C := fun w' => ∃ x : Later S w0, w' = x.val) hm hB ⟨⟨w.drew, hw.drew⟩, rfl⟩ (by simpa using h)

/-- In a round. -/
theorem wpIn_region_round {P : Program} {n id l₀ : Nat} {Q : Exit → Act → World → Prop} {a : Act} {w w0 : World} {S : Nat → Prop} {l : List Oper} (hw : Mod S w0 w) (hm : P.follows .mixedOrders = true) (hB : Region.lexB .any l.toArray = true)
    (h : wpQuiet P l.toArray (fun w' => ∃ x : Later S w0, w' = x.val) (fun a' => ∀ w', (∃ x : Later S w0, w' = x.val) → Q .normal a' w') l a) : (Code.region id l.toArray true).wpIn (Fence.wide.inRound l₀) n P Q a w :=
  wpIn_region_quiet (fun _ => trivial) rfl (fun h => CallsIn.inRound l₀ (callsIn_wide.2 h)) (C := fun w' => ∃ x : Later S w0, w' = x.val) hm hB ⟨⟨w.drew, hw.drew⟩, rfl⟩ (by simpa using h)

/-- A callee that makes memory alone, met in such a region. -/
theorem Calls.later {P : Program} {f : FuncId} {args : Array Value} {S : Nat → Prop} {w0 : World} {x : Later S w0} {v : Value}
    (h : Calls P f args x.val fun e w' => e = .returned v ∧ Below x.val.heap.size x.val w') : Calls P f args x.val fun e w'' => e = .returned v ∧ ∃ y : Later S w0, w'' = y.val :=
  h.mono fun _ w' ⟨he, hb⟩ => ⟨he, ⟨w', x.mod.after hb⟩, rfl⟩

theorem Later.cell {S : Nat → Prop} {w0 : World} {p : Addr} {v : Value} (h : w0.cell? p = some v) (hs : ¬ S p.block) (x : Later S w0) : x.val.cell? p = some v := x.mod.cell_of hs h

end Go.Proofs.Ytcdpiemkbefcoaa
