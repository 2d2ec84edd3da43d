/-
  A region that draws its order: the class of worlds hangs on what is done (d), and what becomes known on the way (x), in whatever order.
-/
import Derived.Test.YtcdpiemkbefcoaaTell
namespace Go.Proofs.Ytcdpiemkbefcoaa
open Go.RowKit
section
variable {P : Program} {ops : Array Oper} {md : Region.Mode} {X : Type} {aF : X → Act} {Cl : X → (Nat → Bool) → World → Prop}

def upd (d : Nat → Bool) (i : Nat) : Nat → Bool := fun j => Nat.beq j i || d j
def OpOk3 (P : Program) (md : Region.Mode) (ops : Array Oper) (aF : X → Act) (Cl : X → (Nat → Bool) → World → Prop) (i : Nat) (o : Oper) : Prop :=
  ∀ x d w, (∀ r, waits md ops i r = true → d r = true) → (∀ c, (lateOf md ops i).contains c = true → d c = false) → Cl x d w →
    if Region.wanted o (yielded ops (aF x).tmps) = true then
      upon2 P (fun u w' => ∃ x', Agree ops (lateOf md ops i) (aF x) (aF x') ∧ (∀ t, o.dst = some t → t < (aF x').tmps.size → (aF x').tmps[t]? = some u) ∧ Cl x' (upd d i) w') ((execOp (aF x).eval o).run P w)
    else (∀ t, o.dst = some t → t < (aF x).tmps.size → (aF x).tmps[t]? = some undef) ∧ Cl x (upd d i) w
abbrev doneOf (listed : Array Bool) : Nat → Bool := fun j => listed.getD j false
theorem done_set {listed : Array Bool} {i : Nat} (hi : i < listed.size) : doneOf (listed.setIfInBounds i true) = upd (doneOf listed) i := by
  funext j
  unfold doneOf upd
  by_cases h : i = j
  · subst h; simp [hi]
  · rw [getD_set_ne false h]
    have : Nat.beq j i = false := by
      cases hb : Nat.beq j i with
      | false => rfl
      | true => exact absurd (Nat.eq_of_beq_eq_true hb).symm h
    rw [this, Bool.false_or]
def stTrue : Nat → World → Prop := fun _ _ => True
theorem Sr.step {Q : Exit → Act → World → Prop} (hB : stageB md ops [] = true) {listed : Array Bool} {a : Act} {w : World} {x : X} (hd : ∀ x y, (aF x).defers = (aF y).defers) (hz : ∀ x y, (aF x).tmps.size = (aF y).tmps.size)
    (hL : ∀ i, i < ops.size → lateB md ops i (lateOf md ops i) = true) (h : St ops [] (aF x) stTrue listed a w) (hC : Cl x (doneOf listed) w) (hD : Down md ops listed) {i : Nat} (hr : i ∈ Region.ready md ops listed)
    (hops : ∀ i o, ops[i]? = some o → OpOk3 P md ops aF Cl i o) (hsel : ∀ (j : Nat) (o : Oper) cs b, ops[j]? = some o → o.op ≠ .select cs b) (K : Act → World → Prop)
    (hK : ∀ x' a' w', St ops [] (aF x') stTrue (listed.setIfInBounds i true) a' w' → Cl x' (doneOf (listed.setIfInBounds i true)) w' → Down md ops (listed.setIfInBounds i true) → K a' w') : wpOp P ops Q i K a w := by
  obtain ⟨hun, o, ho, hall⟩ := mem_ready.1 hr
  have hio := (Array.getElem?_eq_some_iff.1 ho).1
  have hil : i < listed.size := by rw [h.lsize]; exact hio
  have hunf : listed.getD i false = false := by rw [getD_two hil false true]; exact hun
  have hD' : Down md ops (listed.setIfInBounds i true) := by
    intro j oj hoj hlj e he hb
    by_cases hei : i = e.on
    · rw [← hei]; simp [hil]
    · rw [getD_set_ne false hei]
      by_cases hij : i = j
      · subst hij
        rw [ho] at hoj
        cases hoj
        exact hall e he hb
      · rw [getD_set_ne false hij] at hlj
        exact hD j oj hoj hlj e he hb
  have hag := h.reads hB ho hall
  have hlate := late_none hB (hL i hio) hD hunf
  have hput : ∀ u x' w', Agree ops (lateOf md ops i) (aF x) (aF x') → (∀ t, o.dst = some t → t < (aF x').tmps.size → (aF x').tmps[t]? = some u) → St ops [] (aF x') stTrue (listed.setIfInBounds i true) (a.put o.dst u) w' := by
    intro u x' w' hagr hv
    have h' : St ops [] (aF x') stTrue listed a w := by
      refine ⟨h.defers.trans (hd x x'), h.size.trans (hz x x'), fun t ht => ?_, h.lsize, 0, Nat.zero_le _, fun n c hc => by simp at hc, trivial⟩
      rw [h.val t ht]
      refine hagr t fun c hc e => ?_
      have h1 := ht c e
      rw [hlate c hc] at h1
      cases h1
    exact h'.put ho hv ⟨0, Nat.zero_le _, fun n c hc => by simp at hc, trivial⟩
  have hop := hops i o ho x (doneOf listed) w (fun r hw => by
    obtain ⟨o', ho', e, he, hb, hon⟩ := waits_spec hw
    rw [ho] at ho'
    cases ho'
    rw [← hon]
    exact hall e he hb) (fun c hc => hlate c (by simpa using hc)) hC
  unfold wpOp
  simp only [ho]
  rw [wanted_agree hag]
  by_cases hw : Region.wanted o (yielded ops (aF x).tmps) = true
  · rw [if_pos hw] at hop ⊢
    left
    unfold Oper.wp
    rw [execOp_congr o (fun cs b => hsel i o cs b ho) (eval_agree hag)]
    generalize (execOp (aF x).eval o).run P w = r at hop
    cases r with
    | ok n w' =>
      cases n <;> simp only [upon2] at hop <;> simp only [Oper.upon]
      case value u =>
        obtain ⟨x', h1, h2, h3⟩ := hop
        exact hK x' _ _ (hput _ x' _ h1 h2) (by rw [done_set hil]; exact h3) hD'
      case skip =>
        obtain ⟨x', h1, h2, h3⟩ := hop
        exact hK x' _ _ (hput _ x' _ h1 h2) (by rw [done_set hil]; exact h3) hD'
      case enter f args =>
        refine hop.mono fun e w'' hh => ?_
        obtain ⟨v, rfl, x', h1, h2, h3⟩ := hh
        exact hK x' _ _ (hput _ x' _ h1 h2) (by rw [done_set hil]; exact h3) hD'
    | halt x w' => simp only [upon2] at hop
  · rw [if_neg hw] at hop ⊢
    exact hK x _ _ (hput _ x w (fun _ _ => rfl) hop.1) (by rw [done_set hil]; exact hop.2) hD'
theorem wpAny_of_rove {Q : Exit → Act → World → Prop} (hB : stageB md ops [] = true) (hsel : ∀ (j : Nat) (o : Oper) cs b, ops[j]? = some o → o.op ≠ .select cs b) (hd : ∀ x y, (aF x).defers = (aF y).defers) (hz : ∀ x y, (aF x).tmps.size = (aF y).tmps.size)
    (hL : ∀ i, i < ops.size → lateB md ops i (lateOf md ops i) = true)
    (hops : ∀ i o, ops[i]? = some o → OpOk3 P md ops aF Cl i o) (hQ : ∀ x d w, (∀ j, j < ops.size → d j = true) → Cl x d w → Q .normal (aF x) w) : ∀ (fuel : Nat) (listed : Array Bool) (a : Act) (w : World) (x : X),
    ((List.range ops.size).filter fun j => !listed.getD j true).length = fuel → St ops [] (aF x) stTrue listed a w → Cl x (doneOf listed) w → Down md ops listed → wpAny P md ops Q fuel listed a w := by
  have hdone : ∀ (listed : Array Bool) (a : Act) (w : World) (x : X), (∀ j, j < ops.size → listed.getD j true = true) → St ops [] (aF x) stTrue listed a w → Cl x (doneOf listed) w → Q .normal a w := by
    intro listed a w x hall h hC
    have e : a = aF x := by
      have hd := h.defers
      have ht : a.tmps = (aF x).tmps := by
        apply Array.ext_getElem?
        intro t
        refine h.val t fun j hj => ?_
        have hjl : j < ops.size := by
          unfold dstOf at hj
          cases hx : ops[j]? with
          | none => rw [hx] at hj; cases hj
          | some x => exact (Array.getElem?_eq_some_iff.1 hx).1
        rw [getD_two (by rw [h.lsize]; exact hjl) false true]
        exact hall j hjl
      generalize aF x = af at hd ht
      cases a; cases af
      simp only at hd ht
      subst hd ht
      rfl
    rw [e]
    exact hQ x _ w (fun j hj => by
      show listed.getD j false = true
      rw [getD_two (by rw [h.lsize]; exact hj) false true]
      exact hall j hj) hC
  have hready : ∀ (listed : Array Bool), listed.size = ops.size → Region.ready md ops listed = [] → ∀ j, j < ops.size → listed.getD j true = true := by
    intro listed hsz hnil
    have key : ∀ k, k ≤ ops.size → ∀ j, j < k → listed.getD j false = true := by
      intro k
      induction k with
      | zero => intro _ j hj; omega
      | succ k ih =>
        intro hk j hj
        by_cases hjk : j = k
        · subst hjk
          by_cases hl : listed.getD j false = true
          · exact hl
          · exfalso
            have hjs : j < ops.size := by omega
            have hj4 := (stageB_at hB (Array.getElem?_eq_getElem hjs)).2
            have : j ∈ Region.ready md ops listed := mem_ready.2 ⟨by rw [getD_two (by omega) true false]; simpa using hl, ops[j], Array.getElem?_eq_getElem hjs, fun e he hb => ih (by omega) _ (hj4 e he hb)⟩
            rw [hnil] at this; cases this
        · exact ih (by omega) j (by omega)
    intro j hj
    rw [getD_two (by omega) true false]
    exact key ops.size (Nat.le_refl _) j hj
  intro fuel
  induction fuel with
  | zero =>
    intro listed a w x hc h hC _
    have hall : ∀ j, j < ops.size → listed.getD j true = true := by
      intro j hj
      have := List.length_eq_zero_iff.1 hc
      have h1 := List.filter_eq_nil_iff.1 this j (List.mem_range.2 hj)
      simpa using h1
    refine ⟨?_, hdone listed a w x hall h hC⟩
    cases hr : Region.ready md ops listed with
    | nil => rfl
    | cons i r =>
      have hi : i ∈ Region.ready md ops listed := by rw [hr]; exact List.mem_cons_self
      obtain ⟨hun, o, ho, _⟩ := mem_ready.1 hi
      rw [hall i (Array.getElem?_eq_some_iff.1 ho).1] at hun
      cases hun
  | succ fuel ih =>
    intro listed a w x hc h hC hD
    refine ⟨fun hnil => hdone listed a w x (hready listed h.lsize hnil) h hC, fun i hi => ?_⟩
    refine Sr.step hB hd hz hL h hC hD hi hops hsel _ fun x' a' w' h' hC' hD' => ih _ a' w' x' ?_ h' hC' hD'
    obtain ⟨hun, o, ho, _⟩ := mem_ready.1 hi
    have him : i < ops.size := (Array.getElem?_eq_some_iff.1 ho).1
    have hlt : i < listed.size := by rw [h.lsize]; exact him
    have e1 : (List.range ops.size).filter (fun j => !(listed.setIfInBounds i true).getD j true) = ((List.range ops.size).filter fun j => !listed.getD j true).filter (· != i) := by
      rw [List.filter_filter]
      apply List.filter_congr
      intro j _
      by_cases hji : i = j
      · subst hji; simp [hlt]
      · rw [getD_set_ne true hji]
        have : (j != i) = true := by simpa using Ne.symm hji
        rw [this]; simp
    have hnd : ((List.range ops.size).filter fun j => !listed.getD j true).Nodup := List.nodup_range.filter _
    have hmem : i ∈ (List.range ops.size).filter fun j => !listed.getD j true := List.mem_filter.2 ⟨List.mem_range.2 him, by rw [hun]; rfl⟩
    rw [e1, ← hnd.erase_eq_filter, List.length_erase_of_mem hmem, hc]
    rfl
def OpsOk3 (P : Program) (md : Region.Mode) (ops : Array Oper) (aF : X → Act) (Cl : X → (Nat → Bool) → World → Prop) : Nat → List Oper → Prop
  | _, [] => True
  | k, o :: r => OpOk3 P md ops aF Cl k o ∧ OpsOk3 P md ops aF Cl (k + 1) r
theorem OpsOk3.at_ {l : List Oper} : ∀ {k : Nat}, OpsOk3 P md ops aF Cl k l → ∀ i o, l[i]? = some o → OpOk3 P md ops aF Cl (k + i) o := by
  induction l with
  | nil => intro k _ i o h; simp at h
  | cons x r ih =>
    intro k h i o hi
    cases i with
    | zero => simp only [List.getElem?_cons_zero, Option.some.injEq] at hi; subst hi; exact h.1
    | succ i =>
      simp only [List.getElem?_cons_succ] at hi
      have := ih h.2 i o hi
      rw [show k + (i + 1) = k + 1 + i by omega]
      exact this
/-- A REGION THAT DRAWS ITS ORDER: the class of worlds is given for each set of operations done; what becomes known on the way is x; puts x: the slots, if it went so. -/
theorem wp_region_rove {id : Nat} {Q : Exit → Act → World → Prop} {a : Act} {w : World} {l : List Oper} (x0 : X) (puts : X → List (Tmp × Value)) (Cl : X → (Nat → Bool) → World → Prop) (hm : P.follows .mixedOrders = true)
    (hB : stageB .any l.toArray [] = true) (hs : Region.noSelect l.toArray = true)
    (hL : ((List.range l.length).all fun k => lateB .any l.toArray k (lateOf .any l.toArray k)) = true)
    (hp : ∀ x, ((puts x).all fun x => (List.range l.length).any fun j => dstOf l.toArray j == some x.1) = true)
    (h0 : Cl x0 (fun _ => false) w.drew) (hops : ∀ aF, aF = (fun x => putAll (puts x) a) → OpsOk3 P .any l.toArray aF Cl 0 l) (hQ : ∀ x d w, (∀ j, j < l.length → d j = true) → Cl x d w → Q .normal (putAll (puts x) a) w) : (Code.region id l.toArray true).wp P Q a w := by
  have hrep : ∀ j, (Array.replicate l.toArray.size false).getD j false = false := fun j => by
    simp only [Array.getD_eq_getD_getElem?, Array.getElem?_replicate]
    split <;> rfl
  refine wp_region_any hm ?_
  refine wpAny_of_rove (aF := fun x => putAll (puts x) a) (Cl := Cl) hB (Region.noSelect_spec hs) (fun x y => ((putAll_defers (puts x) a).trans (putAll_defers (puts y) a).symm)) (fun x y => ((putAll_size (puts x) a).trans (putAll_size (puts y) a).symm))
    (fun i hi => ?_) (fun i o ho => ?_) (by simpa using hQ) l.toArray.size (Array.replicate l.toArray.size false) a _ x0 ?_ ?_ ?_ (fun i o _ hl => by rw [hrep] at hl; cases hl)
  · exact List.all_eq_true.1 hL i (List.mem_range.2 (by simpa using hi))
  · have := (hops _ rfl).at_ i o (by simpa using ho)
    rwa [Nat.zero_add] at this
  · rw [List.filter_eq_self.2 (fun j hj => by have hj' : j < l.length := by simpa using hj
                                              simp [hj'])]
    simp
  · refine ⟨(putAll_defers (puts x0) a).symm, (putAll_size (puts x0) a).symm, fun t ht => ?_, by simp, 0, Nat.zero_le _, fun n c hc => by simp at hc, trivial⟩
    refine (putAll_other (puts x0) t (fun y hy e => ?_) a).symm
    have := List.all_eq_true.1 (hp x0) y hy
    rw [List.any_eq_true] at this
    obtain ⟨j, _, hj⟩ := this
    rw [beq_iff_eq] at hj
    have := ht j (e ▸ hj)
    rw [hrep] at this
    cases this
  · rw [show doneOf (Array.replicate l.toArray.size false) = fun _ => false from funext hrep]
    exact h0
theorem opOk3_quiet {i : Nat} {o : Oper} (v : X → Value) (hv : ∀ x t, o.dst = some t → t < (aF x).tmps.size → (aF x).tmps[t]? = some (v x)) (hw : ∀ x, Region.wanted o (yielded ops (aF x).tmps) = true)
    (h : ∀ x d w, (∀ r, waits md ops i r = true → d r = true) → Cl x d w → stageUpon P (Cl x (upd d i)) (v x) ((execOp (aF x).eval o).run P w)) : OpOk3 P md ops aF Cl i o := fun x d w hd _ hC => by
  rw [if_pos (hw x)]
  have hup := h x d w hd hC
  generalize (execOp (aF x).eval o).run P w = r at hup
  cases r with
  | ok n w' =>
    cases n <;> simp only [stageUpon] at hup <;> simp only [upon2]
    case value u => exact ⟨x, agree_same _ _, by rw [hup.1]; exact hv x, hup.2⟩
    case skip => exact ⟨x, agree_same _ _, by rw [← hup.1]; exact hv x, hup.2⟩
    case enter f args =>
      refine hup.mono fun e w'' hh => ?_
      exact ⟨_, hh.1, x, agree_same _ _, hv x, hh.2⟩
  | halt x w' => simp only [stageUpon] at hup
theorem opOk3_loud {i : Nat} {o : Oper} (hg : o.guard = none)
    (h : ∀ x d w, (∀ r, waits md ops i r = true → d r = true) → (∀ c, (lateOf md ops i).contains c = true → d c = false) → Cl x d w →
      upon2 P (fun u w' => ∃ x', Agree ops (lateOf md ops i) (aF x) (aF x') ∧ (∀ t, o.dst = some t → t < (aF x').tmps.size → (aF x').tmps[t]? = some u) ∧ Cl x' (upd d i) w') ((execOp (aF x).eval o).run P w)) : OpOk3 P md ops aF Cl i o := fun x d w hd hn hC => by
  rw [if_pos (by unfold Region.wanted; rw [hg])]
  exact h x d w hd hn hC
end
end Go.Proofs.Ytcdpiemkbefcoaa
