/-
  Generic, of no program: a region that draws its order, met in a round of a range over a function: by the plain laws.
-/
import Derived.Test.YtcdpiemkbefcoaaTell
namespace Go.Proofs.Ytcdpiemkbefcoaa
open Go.RowKit

section
variable {P : Program} {l₀ n : Nat} {ops : Array Oper} {md : Region.Mode}
theorem rowsR {row : String} {args : Array Value} {w : World} {R : Value → World → Prop} (h : Rows P row args w R) : RowsIn (Fence.wide.inRound l₀) n P row args w R :=
  fun c cs _ => let ⟨v, w', r, s⟩ := h c cs; ⟨v, w', r, stepsIn_wide.2 s⟩
theorem op_round {o : Oper} {a : Act} {w : World} {K K' : Act → World → Prop} {T : Act → World → Prop} (hnd : ∀ c, o.op ≠ .defer c) (hK : ∀ a w, K a w → K' a w)
    (h : o.wp P a w K (fun e a w => match e with | .normal => T a w | _ => False)) : o.wpIn (Fence.wide.inRound l₀) n P a w K' (fun e a w => match e with | .normal => T a w | _ => False) := by
  refine ⟨fun _ _ => trivial, ?_⟩
  rw [Oper.semAt_eq _ _ _ hnd]
  unfold Oper.wp at h
  generalize (execOp a.eval o).run P w = r at h
  cases r with
  | ok x w' =>
    cases x <;> try exact h.elim
    case value v => exact hK _ _ h
    case skip => exact hK _ _ h
    case defer d => exact hK _ _ h
    case enter f args =>
      refine ⟨(fun hx => by cases hx), CallsIn.inRound l₀ (callsIn_wide.2 (Calls.mono h ?_))⟩
      rintro e w'' he
      cases e with
      | returned v => exact hK _ _ he
      | panicked chain => exact he.elim
      | outgrown => obtain ⟨_, _, hx⟩ := he; exact hx.elim
    case row rw args => exact ⟨(fun hx => by cases hx), RowsIn.mono (rowsR h) fun v w'' he => hK _ _ he⟩
  | halt x w' =>
    cases x <;> first | exact h.elim | exact h
theorem any_round {T : Act → World → Prop} (hnd : ∀ (j : Nat) (o : Oper), ops[j]? = some o → ∀ c, o.op ≠ .defer c) : ∀ (fuel : Nat) (listed : Array Bool) (a : Act) (w : World),
    wpAny P md ops (fun e a w => match e with | .normal => T a w | _ => False) fuel listed a w → wpAnyIn (Fence.wide.inRound l₀) n P md ops (fun e a w => match e with | .normal => T a w | _ => False) fuel listed a w
  | 0, _, _, _, h => h
  | fuel + 1, listed, a, w, h => ⟨h.1, fun i hi => by
      have hh := h.2 i hi
      unfold wpOp at hh
      unfold wpOpIn
      cases ho : ops[i]? with
      | none =>
        rw [ho] at hh
        exact any_round hnd fuel _ _ _ hh
      | some o =>
        rw [ho] at hh
        simp only at hh ⊢
        split at hh
        · rename_i hw
          rw [if_pos hw]
          rcases hh with hh | ⟨_, _, _, hx⟩
          · exact op_round (hnd i o ho) (fun a w => any_round hnd fuel _ a w) hh
          · exact hx.elim
        · rename_i hw
          rw [if_neg hw]
          exact ⟨fun _ _ => trivial, any_round hnd fuel _ _ _ hh⟩⟩
end
def noDefer (l : List Oper) : Bool := l.all fun o => match o.op with | .defer _ => false | _ => true
theorem noDefer_at {l : List Oper} (h : noDefer l = true) (j : Nat) (o : Oper) (hj : l.toArray[j]? = some o) : ∀ c, o.op ≠ .defer c := by
  intro c e
  have hm : o ∈ l := List.mem_of_getElem? (by simpa using hj)
  have := List.all_eq_true.1 h o hm
  rw [e] at this
  cases this
section
variable {P : Program} {X : Type}
theorem wpIn_region_tell {id n l₀ : Nat} {Q : Exit → Act → World → Prop} {a : Act} {w : World} {l : List Oper} (x0 : X) (chain : List Nat) (puts : X → List (Tmp × Value)) (Cl : X → Nat → World → Prop) (hm : P.follows .mixedOrders = true)
    (hB : stageB .any l.toArray chain = true) (hs : Region.noSelect l.toArray = true) (hnd : noDefer l = true) (hin : (chain.all fun c => decide (c < l.length)) = true)
    (hL : ((List.range chain.length).all fun k => lateB .any l.toArray (chain.getD k 0) (lateOf .any l.toArray (chain.getD k 0))) = true)
    (hp : ∀ x, ((puts x).all fun x => (List.range l.length).any fun j => dstOf l.toArray j == some x.1) = true)
    (h0 : Cl x0 0 w.drew) (hops : ∀ aF, aF = (fun x => putAll (puts x) a) → OpsOk2 P .any l.toArray chain (fun k => lateOf .any l.toArray (chain.getD k 0)) aF Cl 0 l) (hQ : ∀ x w, Cl x chain.length w → Q .normal (putAll (puts x) a) w) : (Code.region id l.toArray true).wpIn (Fence.wide.inRound l₀) n P Q a w := by
  have hrep : ∀ j, (Array.replicate l.toArray.size false).getD j false = false := fun j => by
    simp only [Array.getD_eq_getD_getElem?, Array.getElem?_replicate]
    split <;> rfl
  refine wpIn_mono (Q := fun e a w => match e with | .normal => Q .normal a w | _ => False) ?_ (fun e a w h => by cases e <;> first | exact h | exact h.elim)
  refine wpIn_region_any hm ?_
  refine any_round (T := fun a w => Q .normal a w) (noDefer_at hnd) _ _ _ _ ?_
  refine wpAny_of_tell (Q := fun e a w => match e with | .normal => Q .normal a w | _ => False) (chain := chain) (aF := fun x => putAll (puts x) a) (Cl := Cl) (late := fun k => lateOf .any l.toArray (chain.getD k 0)) hB (Region.noSelect_spec hs) (fun x y => ((putAll_defers (puts x) a).trans (putAll_defers (puts y) a).symm)) (fun x y => ((putAll_size (puts x) a).trans (putAll_size (puts y) a).symm))
    (fun k r hk => ?_) (fun i o ho => ?_) (fun c hc => ?_) hQ l.toArray.size (Array.replicate l.toArray.size false) a _ x0 ?_ ?_ (fun i o _ hl => by rw [hrep] at hl; cases hl)
  · have hkl := (List.getElem?_eq_some_iff.1 hk).1
    have := List.all_eq_true.1 hL k (List.mem_range.2 hkl)
    rw [List.getD_eq_getElem?_getD, hk] at this
    show lateB .any l.toArray r (lateOf .any l.toArray (chain.getD k 0)) = true
    rw [List.getD_eq_getElem?_getD, hk]
    exact this
  · have := (hops _ rfl).at_ i o (by simpa using ho)
    rwa [Nat.zero_add] at this
  · have := List.all_eq_true.1 hin c hc
    simpa using this
  · rw [List.filter_eq_self.2 (fun j hj => by have hj' : j < l.length := by simpa using hj
                                              simp [hj'])]
    simp
  · refine ⟨(putAll_defers (puts x0) a).symm, (putAll_size (puts x0) a).symm, fun t ht => ?_, by simp, 0, Nat.zero_le _, fun n c _ => ?_, h0⟩
    · refine (putAll_other (puts x0) t (fun y hy e => ?_) a).symm
      have := List.all_eq_true.1 (hp x0) y hy
      rw [List.any_eq_true] at this
      obtain ⟨j, _, hj⟩ := this
      rw [beq_iff_eq] at hj
      have := ht j (e ▸ hj)
      rw [hrep] at this
      cases this
    · rw [hrep]
      simp
end
end Go.Proofs.Ytcdpiemkbefcoaa
