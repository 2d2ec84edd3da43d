/-
  A region in its order, by the frame as it will be: one line for each operation.
-/
import Derived.Test.YtcipdimnbleljaaRove
import Derived.Test.YtcipdimnbleljaaDm3P
namespace Go.Proofs.Ytcipdimnbleljaa
open Go.RowKit
section
variable {P : Program} {ops : Array Oper} {md : Region.Mode} {aF : Act} {Cl : Nat → World → Prop}

def firstK (n k : Nat) : Array Bool := ((List.range n).map fun j => decide (j < k)).toArray
theorem firstK_size (n k : Nat) : (firstK n k).size = n := by simp [firstK]
theorem firstK_get {n k j : Nat} (hj : j < n) : (firstK n k).getD j false = decide (j < k) := by
  simp [firstK, Array.getD_eq_getD_getElem?, hj]
theorem firstK_set (n k : Nat) : (firstK n k).setIfInBounds k true = firstK n (k + 1) := by
  apply Array.ext_getElem?
  intro j
  rw [Array.getElem?_setIfInBounds, firstK_size]
  simp only [firstK, List.getElem?_toArray, List.getElem?_map]
  by_cases hj : j < n
  · by_cases hkj : k = j
    · subst hkj; simp [hj]
    · have e : decide (j < k) = decide (j < k + 1) := by
        rw [decide_eq_decide]; omega
      simp [hkj, hj, e]
  · have : (List.range n)[j]? = none := by simp; omega
    rw [this]
    split
    · split
      · exfalso; omega
      · rfl
    · rfl
/-- one operation, in its turn -/
def SeqOp (P : Program) (ops : Array Oper) (aF : Act) (Cl : Nat → World → Prop) (k : Nat) (o : Oper) : Prop :=
  ∃ v, (∀ d, o.dst = some d → d < aF.tmps.size → aF.tmps[d]? = some v) ∧
    if Region.wanted o (yielded ops aF.tmps) = true then ∀ w, Cl k w → stageUpon P (Cl (k + 1)) v ((execOp aF.eval o).run P w) else v = undef ∧ ∀ w, Cl k w → Cl (k + 1) w
def SeqOk (P : Program) (ops : Array Oper) (aF : Act) (Cl : Nat → World → Prop) : Nat → List Oper → Prop
  | _, [] => True
  | k, o :: r => SeqOp P ops aF Cl k o ∧ SeqOk P ops aF Cl (k + 1) r
theorem seq_done {listed : Array Bool} {a : Act} {w : World} (hall : ∀ j, j < ops.size → listed.getD j false = true) (h : St ops [] aF stTrue listed a w) : a = aF := by
  have hd := h.defers
  have ht : a.tmps = aF.tmps := by
    apply Array.ext_getElem?
    intro t
    refine h.val t fun j hj => ?_
    have hjl : j < ops.size := by
      unfold dstOf at hj
      cases hx : ops[j]? with
      | none => rw [hx] at hj; cases hj
      | some x => exact (Array.getElem?_eq_some_iff.1 hx).1
    exact hall j hjl
  cases a; cases aF
  simp only at hd ht
  subst hd ht
  rfl
theorem seq_run {Q : Exit → Act → World → Prop} (hB : stageB md ops [] = true) (hsel : ∀ (j : Nat) (o : Oper) cs b, ops[j]? = some o → o.op ≠ .select cs b) (hQ : ∀ w, Cl ops.size w → Q .normal aF w) :
    ∀ (l : List Oper) (k : Nat) (a : Act) (w : World), k + l.length = ops.size → (∀ j, j < l.length → l[j]? = ops[k + j]?) → SeqOk P ops aF Cl k l → St ops [] aF stTrue (firstK ops.size k) a w → Cl k w → wpList P ops Q l a w
  | [], k, a, w, hk, _, _, h, hC => by
    have hk' : k = ops.size := by simpa using hk
    subst hk'
    rw [seq_done (fun j hj => by rw [firstK_get hj]; exact decide_eq_true hj) h]
    exact hQ w hC
  | o :: r, k, a, w, hk, hl, hO, h, hC => by
    have hk' : k < ops.size := by simp at hk; omega
    have ho : ops[k]? = some o := by simpa using (hl 0 (by simp)).symm
    have hall : ∀ e ∈ o.after, Region.binds md e = true → (firstK ops.size k).getD e.on false = true := fun e he hb => by
      have := (stageB_at hB ho).2 e he hb
      rw [firstK_get (by omega)]
      exact decide_eq_true this
    have hag := h.reads hB ho hall
    obtain ⟨⟨v, hv, hop⟩, hr⟩ := hO
    have hput : ∀ w', St ops [] aF stTrue (firstK ops.size (k + 1)) (a.put o.dst v) w' := fun w' => by
      have := h.put (w' := w') ho hv ⟨0, Nat.zero_le _, fun n c hc => by simp at hc, trivial⟩
      rwa [firstK_set] at this
    have hnext : ∀ w', Cl (k + 1) w' → wpList P ops Q r (a.put o.dst v) w' := fun w' hC' =>
      seq_run hB hsel hQ r (k + 1) _ w' (by simp at hk; omega) (fun j hj => by have := hl (j + 1) (by simpa using hj); simpa [Nat.add_assoc, Nat.add_comm 1 j] using this) hr (hput w') hC'
    show if Region.wanted o (yielded ops a.tmps) then o.wp P a w (wpList P ops Q r) Q ∨ (o.asks P a w ∧ LetsOut Q) else wpList P ops Q r (a.put o.dst undef) w
    rw [wanted_agree hag]
    by_cases hw : Region.wanted o (yielded ops aF.tmps) = true
    · rw [if_pos hw] at hop ⊢
      left
      unfold Oper.wp
      rw [execOp_congr o (fun cs b => hsel k o cs b ho) (eval_agree hag)]
      have hup := hop w hC
      generalize (execOp aF.eval o).run P w = x at hup
      cases x with
      | ok n w' =>
        cases n <;> simp only [stageUpon] at hup <;> simp only [Oper.upon]
        case value u =>
          obtain ⟨rfl, hc⟩ := hup
          exact hnext _ hc
        case skip =>
          obtain ⟨rfl, hc⟩ := hup
          exact hnext _ hc
        case enter f args =>
          refine hup.mono fun e w'' hh => ?_
          obtain ⟨rfl, hc⟩ := hh
          exact hnext _ hc
      | halt x w' => simp only [stageUpon] at hup
    · rw [if_neg hw] at hop ⊢
      obtain ⟨rfl, hc⟩ := hop
      exact hnext _ (hc w hC)
/-- A REGION THAT DRAWS NOTHING, in its order: puts: the slots as they will be; Cl k: the worlds with k operations done. -/
theorem wp_region_seq {id : Nat} {Q : Exit → Act → World → Prop} {a : Act} {w : World} {l : List Oper} (puts : List (Tmp × Value)) (Cl : Nat → World → Prop)
    (hB : stageB .any l.toArray [] = true) (hs : Region.noSelect l.toArray = true) (hp : (puts.all fun x => (List.range l.length).any fun j => dstOf l.toArray j == some x.1) = true)
    (h0 : Cl 0 w) (hops : ∀ aF, aF = putAll puts a → SeqOk P l.toArray aF Cl 0 l) (hQ : ∀ w, Cl l.length w → Q .normal (putAll puts a) w) : (Code.region id l.toArray false).wp P Q a w := by
  refine wp_region_list ?_
  refine seq_run (aF := putAll puts a) (Cl := Cl) hB (Region.noSelect_spec hs) (by simpa using hQ) l 0 a w (by simp) (fun j _ => by simp) (hops _ rfl) ?_ h0
  have hf : ∀ j, (firstK l.toArray.size 0).getD j false = false := fun j => by
    by_cases hj : j < l.toArray.size
    · rw [firstK_get hj]; simp
    · rw [Array.getD_eq_getD_getElem?, Array.getElem?_eq_none (by rw [firstK_size]; omega)]; rfl
  refine ⟨(putAll_defers puts a).symm, (putAll_size puts a).symm, fun t ht => ?_, firstK_size _ _, 0, Nat.zero_le _, fun n c hc => by simp at hc, trivial⟩
  refine (putAll_other puts t (fun y hy e => ?_) a).symm
  have := List.all_eq_true.1 hp y hy
  rw [List.any_eq_true] at this
  obtain ⟨j, _, hj⟩ := this
  rw [beq_iff_eq] at hj
  have := ht j (e ▸ hj)
  rw [hf] at this
  cases this
theorem seqOk_op {k : Nat} {o : Oper} (v : Value) (hv : ∀ d, o.dst = some d → d < aF.tmps.size → aF.tmps[d]? = some v) (hw : Region.wanted o (yielded ops aF.tmps) = true) (h : ∀ w, Cl k w → stageUpon P (Cl (k + 1)) v ((execOp aF.eval o).run P w)) :
    SeqOp P ops aF Cl k o := ⟨v, hv, by rw [if_pos hw]; exact h⟩
theorem run_bdn {ρ : Operand → Value} {o : Oper} {w : World} {ty : TypeId} {parts : Array (Nat × Operand)} {vs : Array (Nat × Value)} {v : Value} (ho : o.op = .build ty parts) (hp : (parts.map fun (i, x) => (i, ρ x)) = vs) (hrun : (Instr.build ty vs).run P w = .ok v w) :
    (execOp ρ o).run P w = .ok (.value v) w := by
  unfold execOp
  simp only [ho, hp, Sem.run_bind, hrun, Sem.run_pure, Result.andThen_ok]
theorem run_sdn {ρ : Operand → Value} {o : Oper} {w w' : World} {ty : TypeId} {n : Nat} {parts : Array (Nat × Operand)} {vs : Array (Nat × Value)} {v : Value} (ho : o.op = .buildSlice ty n parts) (hp : (parts.map fun (i, x) => (i, ρ x)) = vs) (hrun : (Instr.buildSlice ty n vs).run P w = .ok v w') :
    (execOp ρ o).run P w = .ok (.value v) w' := by
  unfold execOp
  simp only [ho, hp, Sem.run_bind, hrun, Sem.run_pure, Result.andThen_ok]
end
section
variable {ρ : Operand → Value} {o : Oper} {w : World}
theorem wanted_of {ops : Array Oper} {o : Oper} {ts : Array Value} {j : Nat} {b : Bool} {d : Nat} (hg : o.guard = some (j, b)) (hd : dstOf ops j = some d) (hv : ts[d]? = some (.bool b)) : Region.wanted o (yielded ops ts) = true := by
  unfold Region.wanted yielded
  unfold dstOf at hd
  simp only [hg, hd, Option.bind_some, hv, beq_self_eq_true]
theorem run_neq0 {x : Operand} {n : Int} (ho : o.op = .binOp .neq 53 x (.const (.int .i64 0)) 53) (hx : ρ x = .int .i64 n) (hc : ∀ v, ρ (.const v) = v) : (execOp ρ o).run Try.prog w = .ok (.value (.bool (n != 0))) w := by
  unfold execOp
  simp only [ho, hx, hc]
  go_simp
theorem run_pick0 {c a b : Operand} {v : Value} (ho : o.op = .pick c a b) (hc : ρ c = .bool false) (hb : ρ b = v) : (execOp ρ o).run Try.prog w = .ok (.value v) w := by
  unfold execOp
  simp only [ho, hc, hb]
  go_simp
theorem run_not {x : Operand} {b : Bool} (ho : o.op = .unOp .not 4 x) (hx : ρ x = .bool b) : (execOp ρ o).run Try.prog w = .ok (.value (.bool (!b))) w := by
  unfold execOp
  simp only [ho, hx]
  go_simp
theorem run_ixM {x y : Operand} {g n c k : Nat} (ho : o.op = .indexAddr 66 x y) (hx : ρ x = .slice (some ⟨g, 0, none⟩) n c) (hy : ρ y = .int .i64 k) (hk : k < n) : (execOp ρ o).run Try.prog w = .ok (.value (.pointer (some ⟨g, k * 53, none⟩))) w := by
  have h0 : (0 : Int) ≤ (k : Int) := by omega
  have h1 : (k : Int) < (n : Int) := by omega
  have h2 : ((k : Int)).toNat = k := by omega
  unfold execOp
  simp only [ho, hx, hy]
  go_simp
theorem run_callsame {x y : Operand} {C D : Array Value} (ho : o.op = .call { callee := .value (.func 19), args := #[x, y], argTypes := #[42, 42] }) (hx : ρ x = .agg C) (hy : ρ y = .agg D)
    (hf : ρ (.func 19) = .func (.func 19) #[] #[]) : (execOp ρ o).run Try.prog w = .ok (.enter 19 #[.agg C, .agg D]) w := by
  unfold execOp
  simp only [ho]
  go_simp
end
end Go.Proofs.Ytcipdimnbleljaa
