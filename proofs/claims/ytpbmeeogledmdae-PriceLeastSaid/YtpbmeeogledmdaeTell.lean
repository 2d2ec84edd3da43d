/-
  A region that draws its order: a quiet beginning, and behind it, in its own order, what is not quiet ('f([]T{g(x), h(y)}...)'). Of no program.
  A region that draws its order: quiet operations in any order, beside a chain of operations that change the world in a forced order. No program in sight.
  A region that draws its order, with a forced chain of operations that may hand back what nobody knew ahead. No program in sight.
  A region that draws its order: the class of worlds hangs on what is done (d), and what becomes known on the way (x), in whatever order.
  Generic, of no program: a region that draws its order, met in a round of a range over a function: by the plain laws.
-/
import Derived.Test.YtpbmeeogledmdaeBlk
import Derived.BigQuiet
namespace Go.Proofs.Ytpbmeeogledmdae
open Go.RowKit
open Go

section
variable {P : Program} {ops : Array Oper} {C : World → Prop} {md : Region.Mode} {m : Nat}

/-- does operation q wait for p? -/
def waits (md : Region.Mode) (ops : Array Oper) (q p : Nat) : Bool := ((ops[q]?).map fun o => o.after.any fun e => Region.binds md e && e.on == p).getD false
/-- what the text of the region must say -/
def thenB (md : Region.Mode) (ops : Array Oper) (m : Nat) : Bool :=
  decide (m < ops.size) && (List.range m).all (fun p => (List.range (m + 1)).any fun q => decide (p < q) && waits md ops q p) &&
  (List.range ops.size).all (fun j => !decide (m < j) || (List.range j).any fun q => decide (m ≤ q) && waits md ops j q) &&
  (List.range m).all (fun i => ((ops[i]?).map fun o => o.after.all fun e => !Region.binds md e || decide (e.on < i)).getD true)

structure Inv (md : Region.Mode) (ops : Array Oper) (m : Nat) (fuel : Nat) (listed : Array Bool) : Prop where
  size : listed.size = ops.size
  tail : ∀ j, m ≤ j → j < ops.size → listed.getD j true = false
  count : ((List.range m).filter fun j => !listed.getD j true).length = fuel
  closed : ∀ i o, listed.getD i false = true → ops[i]? = some o → ∀ e ∈ o.after, Region.binds md e = true → listed.getD e.on false = true

theorem waits_spec {q p : Nat} (h : waits md ops q p = true) : ∃ o, ops[q]? = some o ∧ ∃ e ∈ o.after, Region.binds md e = true ∧ e.on = p := by
  unfold waits at h
  cases ho : ops[q]? with
  | none => rw [ho] at h; simp at h
  | some o =>
    rw [ho] at h
    simp only [Option.map_some, Option.getD_some, Array.any_eq_true, Bool.and_eq_true, beq_iff_eq] at h
    obtain ⟨i, hi, hb, he⟩ := h
    exact ⟨o, rfl, _, Array.getElem_mem hi, hb, he⟩

/-- operation m may come up only behind all that stand ahead of it -/
theorem Inv.all_of_m {fuel : Nat} {listed : Array Bool} (hB : thenB md ops m = true) (hI : Inv md ops m fuel listed) (h : m ∈ Region.ready md ops listed) : ∀ p, p < m → listed.getD p false = true := by
  simp only [thenB, Bool.and_eq_true, decide_eq_true_eq, List.all_eq_true, List.mem_range, List.any_eq_true] at hB
  obtain ⟨⟨⟨h1, h2⟩, h3⟩, h4⟩ := hB
  obtain ⟨hm, om, hom, hall⟩ := mem_ready.1 h
  have key : ∀ d p, p < m → m - p ≤ d → listed.getD p false = true := by
    intro d
    induction d with
    | zero => intro p hp hd; omega
    | succ d ih =>
      intro p hp hd
      obtain ⟨q, hq, hpq, hw⟩ := h2 p hp
      obtain ⟨o, ho, e, he, hb, rfl⟩ := waits_spec hw
      by_cases hqm : q = m
      · subst hqm
        rw [hom] at ho; cases ho
        exact hall e he hb
      · exact hI.closed q o (ih q (by omega) (by omega)) ho e he hb
  exact fun p hp => key (m - p) p hp (Nat.le_refl _)

theorem getD_both {l : Array Bool} {j : Nat} (h : j < l.size) (d d' : Bool) : l.getD j d = l.getD j d' := by simp [h]

theorem Inv.lt {fuel : Nat} {listed : Array Bool} (hB : thenB md ops m = true) (hI : Inv md ops m (fuel + 1) listed) {i : Nat} (h : i ∈ Region.ready md ops listed) : i < m := by
  rcases Nat.lt_trichotomy i m with hi | hi | hi
  · exact hi
  · subst hi
    have hall := hI.all_of_m hB h
    have hc := hI.count
    rw [List.length_eq_zero_iff.2 (List.filter_eq_nil_iff.2 (fun j hj => by
      have hj' := List.mem_range.1 hj
      have hB' := hB
      simp only [thenB, Bool.and_eq_true, decide_eq_true_eq] at hB'
      have hsz := hI.size
      rw [getD_both (by omega) true false, hall j hj']; simp))] at hc
    omega
  · have hB' := hB
    simp only [thenB, Bool.and_eq_true, decide_eq_true_eq, List.all_eq_true, List.mem_range, List.any_eq_true, Bool.or_eq_true, Bool.not_eq_true', decide_eq_false_iff_not] at hB'
    obtain ⟨⟨⟨h1, h2⟩, h3⟩, h4⟩ := hB'
    obtain ⟨hm, om, hom, hall⟩ := mem_ready.1 h
    have hlt : i < ops.size := by
      rcases Nat.lt_or_ge i ops.size with g | g
      · exact g
      · rw [Array.getElem?_eq_none g] at hom; cases hom
    rcases h3 i hlt with g | ⟨q, hq, hmq, hw⟩
    · exact absurd hi g
    · obtain ⟨o, ho, e, he, hb, rfl⟩ := waits_spec hw
      rw [hom] at ho; cases ho
      have ht := hI.tail e.on hmq (by omega)
      have hl := hall e he hb
      rw [getD_both (by rw [hI.size]; omega) true false, hl] at ht
      cases ht

theorem Inv.step {fuel : Nat} {listed : Array Bool} (hB : thenB md ops m = true) (hI : Inv md ops m (fuel + 1) listed) {i : Nat} (h : i ∈ Region.ready md ops listed) : Inv md ops m fuel (listed.setIfInBounds i true) := by
  have him := hI.lt hB h
  obtain ⟨hun, o, ho, hall⟩ := mem_ready.1 h
  refine ⟨by simp [hI.size], fun j hj hjs => ?_, ?_, fun k ok hk hok e he hb => ?_⟩
  · rw [getD_set_ne true (by omega)]; exact hI.tail j hj hjs
  · have hc := hI.count
    have hlt : i < listed.size := by
      rcases Nat.lt_or_ge i listed.size with g | g
      · exact g
      · simp [Array.getElem?_eq_none g] at hun
    have e1 : (List.range m).filter (fun j => !(listed.setIfInBounds i true).getD j true) = ((List.range m).filter fun j => !listed.getD j true).filter (· != i) := by
      rw [List.filter_filter]
      apply List.filter_congr
      intro j _
      by_cases hji : i = j
      · subst hji; simp [hlt]
      · rw [getD_set_ne true hji]
        have : (j != i) = true := by simpa using Ne.symm hji
        rw [this]; simp
    have hnd : ((List.range m).filter fun j => !listed.getD j true).Nodup := List.nodup_range.filter _
    have hmem : i ∈ (List.range m).filter fun j => !listed.getD j true := List.mem_filter.2 ⟨List.mem_range.2 him, by rw [hun]; rfl⟩
    rw [e1, ← hnd.erase_eq_filter, List.length_erase_of_mem hmem, hc]
    rfl
  · by_cases hki : k = i
    · subst hki
      rw [ho] at hok; cases hok
      exact getD_set_true (hall e he hb)
    · rw [getD_set_ne false (Ne.symm hki)] at hk
      exact getD_set_true (hI.closed k ok hk hok e he hb)

theorem Inv.some_ready {fuel : Nat} {listed : Array Bool} (hB : thenB md ops m = true) (hI : Inv md ops m (fuel + 1) listed) : Region.ready md ops listed ≠ [] := by
  intro hnil
  have hB' := hB
  simp only [thenB, Bool.and_eq_true, decide_eq_true_eq, List.all_eq_true, List.mem_range] at hB'
  obtain ⟨⟨⟨h1, h2⟩, h3⟩, h4⟩ := hB'
  have hsz := hI.size
  have key : ∀ k, k ≤ m → ∀ j, j < k → listed.getD j false = true := by
    intro k
    induction k with
    | zero => intro _ j hj; omega
    | succ k ih =>
      intro hk j hj
      by_cases hjk : j = k
      · subst hjk
        by_cases hl : listed.getD j false = true
        · exact hl
        · exfalso
          have hjs : j < ops.size := by omega
          have hj4 := h4 j (by omega)
          rw [Array.getElem?_eq_getElem hjs] at hj4
          simp only [Option.map_some, Option.getD_some, Array.all_eq_true, Bool.or_eq_true, Bool.not_eq_true', decide_eq_true_eq] at hj4
          have : j ∈ Region.ready md ops listed := mem_ready.2 ⟨by rw [getD_both (by omega) true false]; simpa using hl, ops[j], Array.getElem?_eq_getElem hjs, fun e he hb => by
            obtain ⟨i, hi, rfl⟩ := Array.getElem_of_mem he
            rcases hj4 i hi with g | g
            · rw [hb] at g; cases g
            · exact ih (by omega) _ g⟩
          rw [hnil] at this; cases this
      · exact ih (by omega) j (by omega)
  have hc := hI.count
  rw [List.length_eq_zero_iff.2 (List.filter_eq_nil_iff.2 (fun j hj => by
    have hj' := List.mem_range.1 hj
    rw [getD_both (by omega) true false, key m (Nat.le_refl _) j hj']; simp))] at hc
  omega

/-- Whatever order is picked for the quiet beginning. -/
def wpAnyT (P : Program) (md : Region.Mode) (ops : Array Oper) (C : World → Prop) (T : Act → Prop) : Nat → Array Bool → Act → Prop
  | 0, _, a => T a
  | fuel + 1, listed, a => ∀ i ∈ Region.ready md ops listed, qOp P ops C i (wpAnyT P md ops C T fuel (listed.setIfInBounds i true)) a

theorem Inv.full {listed : Array Bool} (hI : Inv md ops m 0 listed) : listed = ((List.range ops.size).map fun j => decide (j < m)).toArray := by
  have hsz := hI.size
  apply Array.ext
  · simp [hsz]
  · intro j h1 h2
    have hjs : j < ops.size := by omega
    have e : ((List.range ops.size).map fun j => decide (j < m)).toArray[j] = decide (j < m) := by simp
    rw [e]
    by_cases hj : j < m
    · have hf := List.filter_eq_nil_iff.1 (List.length_eq_zero_iff.1 hI.count) j (List.mem_range.2 hj)
      have : listed[j] = true := by simpa [h1] using hf
      rw [this, decide_eq_true hj]
    · have := hI.tail j (by omega) hjs
      have : listed[j] = false := by simpa [h1] using this
      rw [this, decide_eq_false hj]

theorem wpAny_of_T {T : Act → Prop} {Q : Exit → Act → World → Prop} {r : Nat} (hB : thenB md ops m = true)
    (hT : ∀ a w, C w → T a → wpAny P md ops Q r ((List.range ops.size).map fun j => decide (j < m)).toArray a w) :
    ∀ (fuel : Nat) (listed : Array Bool) (a : Act) (w : World), Inv md ops m fuel listed → C w → wpAnyT P md ops C T fuel listed a → wpAny P md ops Q (r + fuel) listed a w
  | 0, listed, a, w, hI, hw, h => by
    rw [hI.full]; exact hT a w hw h
  | fuel + 1, listed, a, w, hI, hw, h =>
    ⟨fun h0 => absurd h0 (hI.some_ready hB), fun i hi => wpOp_of_qOp hw (fun a' w' hw' => wpAny_of_T hB hT fuel _ a' w' (hI.step hB hi) hw') (h i hi)⟩

theorem wpAnyT_first {T : Act → Prop} {i : Nat} {oi : Oper} {v : Value} (hB : thenB md ops m = true) (hi : ops[i]? = some oi) (hsel : ∀ (j : Nat) (o : Oper) cs b, ops[j]? = some o → o.op ≠ .select cs b) :
    ∀ (fuel : Nat) (listed : Array Bool) (a : Act), Inv md ops m (fuel + 1) listed →
      (∀ j oj, ops[j]? = some oj → j ≠ i → listed.getD j true = false → (∀ e ∈ oj.after, Region.binds md e = true → e.on ≠ i) → oi.apart ops oj = true) →
      i ∈ Region.ready md ops listed → YieldsIn P ops C oi v a →
      wpAnyT P md ops C T fuel (listed.setIfInBounds i true) (a.put oi.dst v) → wpAnyT P md ops C T (fuel + 1) listed a := by
  intro fuel
  induction fuel with
  | zero =>
    intro listed a hI _ hr hy H j hj
    by_cases hji : j = i
    · subst hji; exact hy.qOp hi H
    · exfalso
      have hjm := hI.lt hB hj
      have hI0 := hI.step hB hr
      have hf := List.filter_eq_nil_iff.1 (List.length_eq_zero_iff.1 hI0.count) j (List.mem_range.2 hjm)
      rw [getD_set_ne true (Ne.symm hji), (mem_ready.1 hj).1] at hf
      exact hf rfl
  | succ fuel ih =>
    intro listed a hI hfree hr hy H j hj
    by_cases hji : j = i
    · subst hji; exact hy.qOp hi H
    · have h1 := H j (ready_mono hj hji)
      obtain ⟨hjun, oj, hoj, hall⟩ := mem_ready.1 hj
      have hnot : ∀ e ∈ oj.after, Region.binds md e = true → e.on ≠ i := fun e he hb heq => by
        have h1 := hall e he hb
        have h0 := (mem_ready.1 hr).1
        rw [heq] at h1
        rcases Nat.lt_or_ge i listed.size with h' | h'
        · simp [h'] at h0 h1; rw [h0] at h1; cases h1
        · simp [Array.getElem?_eq_none h'] at h1
      have h2 := qOp_put hoj (hfree j oj hoj hji hjun hnot) (fun cs b => hsel i oi cs b hi) (fun cs b => hsel j oj cs b hoj) hy h1
      have hfree' : ∀ k ok, ops[k]? = some ok → k ≠ i → (listed.setIfInBounds j true).getD k true = false →
          (∀ e ∈ ok.after, Region.binds md e = true → e.on ≠ i) → oi.apart ops ok = true := fun k ok hk hki hun hno => by
        refine hfree k ok hk hki ?_ hno
        by_cases hjk : j = k
        · subst hjk; exact hjun
        · rw [getD_set_ne true hjk] at hun; exact hun
      refine qOp_mono (fun a' h3 => ih (listed.setIfInBounds j true) a' (hI.step hB hj) hfree' (ready_mono hr (Ne.symm hji)) h3.1 ?_) h2
      rw [Array.setIfInBounds_comm _ _ hji]
      exact h3.2

/-- the lexical walk of the beginning -/
def lexPre (md : Region.Mode) (ops : Array Oper) : Nat → Nat → Array Bool → Bool
  | 0, _, _ => true
  | fuel + 1, k, listed => (Region.ready md ops listed).contains k && Region.free md ops listed k && lexPre md ops fuel (k + 1) (listed.setIfInBounds k true)

theorem wpAnyT_lex {T : Act → Prop} (hB : thenB md ops m = true) (hs : Region.noSelect ops = true) : ∀ (l : List Oper) (k : Nat) (listed : Array Bool) (a : Act), (∀ j, j < l.length → l[j]? = ops[k + j]?) →
    Inv md ops m l.length listed → lexPre md ops l.length k listed = true → wpQuiet P ops C T l a → wpAnyT P md ops C T l.length listed a
  | [], _, _, _, _, _, _, h => h
  | o :: l, k, listed, a, hl, hI, hL, h => by
    have h0 : ops[k]? = some o := by simpa using (hl 0 (by simp)).symm
    simp only [List.length_cons, lexPre, Bool.and_eq_true] at hL
    obtain ⟨⟨hr, hf⟩, hL'⟩ := hL
    have hst : qOp P ops C k (wpQuiet P ops C T l) a := by unfold qOp; simp only [h0]; exact h
    obtain ⟨v, hy, hK⟩ := yieldsIn_of_qOp h0 hst
    have hr' : k ∈ Region.ready md ops listed := by simpa using hr
    exact wpAnyT_first hB h0 (Region.noSelect_spec hs) l.length listed a hI (Region.free_spec h0 hf) hr' hy
      (wpAnyT_lex hB hs l (k + 1) _ _ (fun j hj => by have := hl (j + 1) (by simpa using hj); simpa [Nat.add_assoc, Nat.add_comm 1 j] using this) (hI.step hB hr') hL' hK)

theorem inv_start (hm : m ≤ ops.size) : Inv md ops m m (Array.replicate ops.size false) := by
  refine ⟨by simp, fun j _ hj => by simp [hj], ?_, fun i o hi => ?_⟩
  · rw [List.filter_eq_self.2]
    · simp
    · intro j hj
      have hj' := List.mem_range.1 hj
      have : j < ops.size := by omega
      simp [this]
  · exfalso
    rcases Nat.lt_or_ge i ops.size with g | g
    · simp [g] at hi
    · simp [Nat.not_lt.2 g] at hi

/-- **A REGION WITH A QUIET BEGINNING**: its first m operations are quiet in the class; behind them the rest comes, in whatever order the text leaves. -/
theorem wp_region_then {id : Nat} {Q : Exit → Act → World → Prop} {a : Act} {w : World} {l : List Oper} (m : Nat) (hm : P.follows .mixedOrders = true)
    (hB : (thenB .any l.toArray m && Region.noSelect l.toArray && lexPre .any l.toArray m 0 (Array.replicate l.length false)) = true) (hC : C w.drew)
    (h : wpQuiet P l.toArray C (fun a' => ∀ w', C w' → wpAny P .any l.toArray Q (l.length - m) ((List.range l.length).map fun j => decide (j < m)).toArray a' w') (l.take m) a) : (Code.region id l.toArray true).wp P Q a w := by
  simp only [Bool.and_eq_true] at hB
  obtain ⟨⟨hB1, hB2⟩, hB3⟩ := hB
  have hml : m < l.length := by
    have := hB1
    simp only [thenB, Bool.and_eq_true, decide_eq_true_eq] at this
    simpa using this.1.1.1
  have hlen : (l.take m).length = m := by simp; omega
  refine wp_region_any hm ?_
  have h1 := wpAnyT_lex (C := C) (md := .any) hB1 hB2 (l.take m) 0 (Array.replicate l.length false) a (fun j hj => by
    rw [hlen] at hj
    simp [hj]) (by rw [hlen]; have := inv_start (md := .any) (ops := l.toArray) (m := m) (by simp; omega); simpa using this) (by rw [hlen]; exact hB3) h
  rw [hlen] at h1
  have h2 := wpAny_of_T (Q := Q) (r := l.length - m) hB1 (fun a' w' hw' hT => by simpa using hT w' hw') m _ a w.drew (by have := inv_start (md := .any) (ops := l.toArray) (m := m) (by simp; omega); simpa using this) hC h1
  have e : l.length - m + m = l.toArray.size := by simp; omega
  rw [e] at h2
  simpa using h2
end
end Go.Proofs.Ytpbmeeogledmdae
namespace Go.Proofs.Ytpbmeeogledmdae
open Go.RowKit

def dstOf (ops : Array Oper) (i : Nat) : Option Tmp := (ops[i]?).bind (·.dst)
/-- who reads a slot waits for whoever writes it; a slot has one writer; what is waited for stands ahead; the chain is forced -/
def stageB (md : Region.Mode) (ops : Array Oper) (chain : List Nat) : Bool :=
  ((List.range ops.size).all fun i => match ops[i]? with
    | none => true
    | some o => ((o.looksAt ops).all fun t => (List.range ops.size).all fun j => dstOf ops j != some t || (j != i && o.after.any fun e => Region.binds md e && e.on == j)) &&
      ((match o.dst with | none => true | some d => (List.range ops.size).all fun j => j == i || dstOf ops j != some d) &&
      (o.after.all fun e => !Region.binds md e || decide (e.on < i)))) &&
  ((List.range chain.length).all fun k => match chain[k]?, chain[k + 1]? with
    | some p, some q => match ops[q]? with | some o => o.after.any fun e => Region.binds md e && e.on == p | none => false
    | _, _ => true) && decide chain.Nodup
section
variable {P : Program} {ops : Array Oper} {md : Region.Mode} {chain : List Nat} {aF : Act} {Cl : Nat → World → Prop}

/-- what one operation does, from a stage to a stage -/
def stageUpon (P : Program) (C : World → Prop) (v : Value) : Result Next → Prop
  | .ok (.value u) w' => u = v ∧ C w'
  | .ok .skip w' => v = undef ∧ C w'
  | .ok (.enter f args) w' => Calls P f args w' fun e w'' => e = .returned v ∧ C w''
  | _ => False
/-- operation i, over the frame as it will be in the end -/
def OpOk (P : Program) (ops : Array Oper) (chain : List Nat) (aF : Act) (Cl : Nat → World → Prop) (i : Nat) (o : Oper) : Prop :=
  ∃ v, (∀ d, o.dst = some d → d < aF.tmps.size → aF.tmps[d]? = some v) ∧
    if Region.wanted o (yielded ops aF.tmps) = true then
      (∀ k, chain[k]? = some i → ∀ w, Cl k w → stageUpon P (Cl (k + 1)) v ((execOp aF.eval o).run P w)) ∧
      (i ∉ chain → ∀ k w, Cl k w → stageUpon P (Cl k) v ((execOp aF.eval o).run P w))
    else v = undef ∧ i ∉ chain

structure St (ops : Array Oper) (chain : List Nat) (aF : Act) (Cl : Nat → World → Prop) (listed : Array Bool) (a : Act) (w : World) : Prop where
  defers : a.defers = aF.defers
  size : a.tmps.size = aF.tmps.size
  val : ∀ t, (∀ j, dstOf ops j = some t → listed.getD j false = true) → a.tmps[t]? = aF.tmps[t]?
  lsize : listed.size = ops.size
  stage : ∃ k, k ≤ chain.length ∧ (∀ n c, chain[n]? = some c → (listed.getD c false = true ↔ n < k)) ∧ Cl k w

theorem getD_two {l : Array Bool} {j : Nat} (h : j < l.size) (d d' : Bool) : l.getD j d = l.getD j d' := by simp [h]
theorem St.reads (hB : stageB md ops chain = true) {listed : Array Bool} {a : Act} {w : World} (h : St ops chain aF Cl listed a w) {i : Nat} {o : Oper} (ho : ops[i]? = some o)
    (hr : ∀ e ∈ o.after, Region.binds md e = true → listed.getD e.on false = true) : ∀ t ∈ o.looksAt ops, a.tmps[t]? = aF.tmps[t]? := by
  intro t ht
  refine h.val t fun j hj => ?_
  have hi : i < ops.size := (Array.getElem?_eq_some_iff.1 ho).1
  unfold stageB at hB
  rw [Bool.and_eq_true, Bool.and_eq_true] at hB
  have h1 := List.all_eq_true.1 hB.1.1 i (List.mem_range.2 hi)
  rw [ho] at h1
  simp only [Bool.and_eq_true] at h1
  have h2 := List.all_eq_true.1 h1.1 t ht
  have hjl : j < ops.size := by
    unfold dstOf at hj
    cases hx : ops[j]? with
    | none => rw [hx] at hj; cases hj
    | some x => exact (Array.getElem?_eq_some_iff.1 hx).1
  have h3 := List.all_eq_true.1 h2 j (List.mem_range.2 hjl)
  rw [hj] at h3
  simp only [bne_self_eq_false, Bool.false_or, Bool.and_eq_true] at h3
  obtain ⟨e, he, hb⟩ := Array.any_eq_true'.1 h3.2
  rw [Bool.and_eq_true, beq_iff_eq] at hb
  have := hr e he hb.1
  rw [hb.2] at this
  exact this
theorem eval_agree {a : Act} {o : Oper} (h : ∀ t ∈ o.looksAt ops, a.tmps[t]? = aF.tmps[t]?) : ∀ x ∈ o.op.operands, a.eval x = aF.eval x := by
  intro x hx
  cases x with
  | tmp t =>
    have := h t (by
      unfold Oper.looksAt
      refine List.mem_append_left _ (List.mem_filterMap.2 ⟨.tmp t, by simpa using hx, rfl⟩))
    simp only [Act.eval, Array.getD_eq_getD_getElem?, this]
  | _ => rfl
theorem wanted_agree {a : Act} {o : Oper} (h : ∀ t ∈ o.looksAt ops, a.tmps[t]? = aF.tmps[t]?) : Region.wanted o (yielded ops a.tmps) = Region.wanted o (yielded ops aF.tmps) := by
  unfold Region.wanted
  cases hg : o.guard with
  | none => rfl
  | some gw =>
    obtain ⟨g, want⟩ := gw
    have hy : yielded ops a.tmps g = yielded ops aF.tmps g := by
      unfold yielded
      cases ht : (ops[g]?).bind (·.dst) with
      | none => rfl
      | some t =>
        have := h t (by unfold Oper.looksAt; exact List.mem_append_right _ (by simp [hg, ht]))
        simp [this]
    simp only [hy]

theorem stageB_at (hB : stageB md ops chain = true) {i : Nat} {o : Oper} (ho : ops[i]? = some o) :
    (∀ d, o.dst = some d → ∀ j, dstOf ops j = some d → j = i) ∧ (∀ e ∈ o.after, Region.binds md e = true → e.on < i) := by
  have hi : i < ops.size := (Array.getElem?_eq_some_iff.1 ho).1
  unfold stageB at hB
  rw [Bool.and_eq_true, Bool.and_eq_true] at hB
  have h1 := List.all_eq_true.1 hB.1.1 i (List.mem_range.2 hi)
  rw [ho] at h1
  simp only [Bool.and_eq_true] at h1
  refine ⟨fun d hd j hj => ?_, fun e he hb => ?_⟩
  · have h2 := h1.2.1
    rw [hd] at h2
    have hjl : j < ops.size := by
      unfold dstOf at hj
      cases hx : ops[j]? with
      | none => rw [hx] at hj; cases hj
      | some x => exact (Array.getElem?_eq_some_iff.1 hx).1
    have h3 := List.all_eq_true.1 h2 j (List.mem_range.2 hjl)
    rw [hj] at h3
    simpa using h3
  · have h3 := Array.all_eq_true'.1 h1.2.2 e he
    rw [hb] at h3
    simpa using h3
theorem stageB_nodup (hB : stageB md ops chain = true) : chain.Nodup := by
  unfold stageB at hB
  rw [Bool.and_eq_true] at hB
  exact of_decide_eq_true hB.2
theorem stageB_chain (hB : stageB md ops chain = true) {k p q : Nat} (hp : chain[k]? = some p) (hq : chain[k + 1]? = some q) {o : Oper} (ho : ops[q]? = some o) : ∃ e ∈ o.after, Region.binds md e = true ∧ e.on = p := by
  unfold stageB at hB
  rw [Bool.and_eq_true, Bool.and_eq_true] at hB
  have h1 := List.all_eq_true.1 hB.1.2 k (List.mem_range.2 (List.getElem?_eq_some_iff.1 hp).1)
  rw [hp, hq] at h1
  simp only [ho] at h1
  obtain ⟨e, he, hb⟩ := Array.any_eq_true'.1 h1
  rw [Bool.and_eq_true, beq_iff_eq] at hb
  exact ⟨e, he, hb.1, hb.2⟩
theorem St.put {listed : Array Bool} {a : Act} {w w' : World} (h : St ops chain aF Cl listed a w) {i : Nat} {o : Oper} (ho : ops[i]? = some o) {v : Value}
    (hv : ∀ d, o.dst = some d → d < aF.tmps.size → aF.tmps[d]? = some v)
    (hst : ∃ k, k ≤ chain.length ∧ (∀ n c, chain[n]? = some c → ((listed.setIfInBounds i true).getD c false = true ↔ n < k)) ∧ Cl k w') : St ops chain aF Cl (listed.setIfInBounds i true) (a.put o.dst v) w' := by
  have hdi : dstOf ops i = o.dst := by unfold dstOf; rw [ho]; rfl
  refine ⟨?_, ?_, ?_, by simp [h.lsize], hst⟩
  · cases hd : o.dst <;> simp [Act.put, h.defers]
  · cases hd : o.dst <;> simp [Act.put, h.size]
  · intro t ht
    have hold : o.dst ≠ some t → a.tmps[t]? = aF.tmps[t]? := fun hne => h.val t fun j hj => by
      have hji : i ≠ j := fun e => hne (by subst e; rw [← hdi]; exact hj)
      have := ht j hj
      rwa [getD_set_ne false hji] at this
    cases hd : o.dst with
    | none => exact hold (by rw [hd]; simp)
    | some d =>
      by_cases hdt : d = t
      · subst hdt
        by_cases hlt : d < a.tmps.size
        · simp only [Act.put, Array.getElem?_setIfInBounds, hlt, if_true]
          exact (hv d hd (by rw [← h.size]; exact hlt)).symm
        · have hz : aF.tmps.size ≤ d := by rw [← h.size]; exact Nat.le_of_not_lt hlt
          have hz' : (a.tmps.setIfInBounds d v).size ≤ d := by rw [Array.size_setIfInBounds]; exact Nat.le_of_not_lt hlt
          show (a.tmps.setIfInBounds d v)[d]? = _
          rw [Array.getElem?_eq_none hz, Array.getElem?_eq_none hz']
      · simp only [Act.put, Array.getElem?_setIfInBounds_ne hdt]
        exact hold (by rw [hd]; simpa using hdt)
theorem St.step {Q : Exit → Act → World → Prop} (hB : stageB md ops chain = true) {listed : Array Bool} {a : Act} {w : World} (h : St ops chain aF Cl listed a w) {i : Nat} (hr : i ∈ Region.ready md ops listed)
    (hops : ∀ i o, ops[i]? = some o → OpOk P ops chain aF Cl i o) (hsel : ∀ (j : Nat) (o : Oper) cs b, ops[j]? = some o → o.op ≠ .select cs b) (K : Act → World → Prop)
    (hK : ∀ a' w', St ops chain aF Cl (listed.setIfInBounds i true) a' w' → K a' w') : wpOp P ops Q i K a w := by
  obtain ⟨hun, o, ho, hall⟩ := mem_ready.1 hr
  obtain ⟨v, hv, hop⟩ := hops i o ho
  have hag := h.reads hB ho hall
  have hil : i < listed.size := by rw [h.lsize]; exact (Array.getElem?_eq_some_iff.1 ho).1
  have hunf : listed.getD i false = false := by rw [getD_two hil false true]; exact hun
  obtain ⟨k, hkl, hk, hC⟩ := h.stage
  have hsame : i ∉ chain → ∀ n c, chain[n]? = some c → ((listed.setIfInBounds i true).getD c false = true ↔ n < k) := fun hni n c hc => by
    have hne : i ≠ c := fun e => hni (by subst e; exact List.mem_of_getElem? hc)
    rw [getD_set_ne false hne]
    exact hk n c hc
  unfold wpOp
  simp only [ho]
  rw [wanted_agree hag]
  by_cases hw : Region.wanted o (yielded ops aF.tmps) = true
  · rw [if_pos hw] at hop ⊢
    left
    unfold Oper.wp
    rw [execOp_congr o (fun cs b => hsel i o cs b ho) (eval_agree hag)]
    have key : ∃ k', k' ≤ chain.length ∧ (∀ n c, chain[n]? = some c → ((listed.setIfInBounds i true).getD c false = true ↔ n < k')) ∧ stageUpon P (Cl k') v ((execOp aF.eval o).run P w) := by
      by_cases hc : i ∈ chain
      · obtain ⟨n, hn, hni⟩ := List.getElem_of_mem hc
        have hni' : chain[n]? = some i := by rw [List.getElem?_eq_getElem hn, hni]
        have hnk : ¬ n < k := fun hlt => by
          have := (hk n i hni').2 hlt
          rw [hunf] at this; cases this
        have hkn : k = n := by
          cases n with
          | zero => omega
          | succ n =>
            have hp : chain[n]? = some chain[n] := List.getElem?_eq_getElem (by omega)
            obtain ⟨e, he, hb, hon⟩ := stageB_chain hB hp hni' ho
            have := hall e he hb
            rw [hon] at this
            have := (hk n _ hp).1 this
            omega
        subst hkn
        refine ⟨k + 1, hn, fun m c hmc => ?_, hop.1 k hni' w hC⟩
        by_cases hci : i = c
        · subst hci
          have hmk : m = k := by
            have hnd := stageB_nodup hB
            have hml := (List.getElem?_eq_some_iff.1 hmc).1
            exact (List.getElem?_inj hml hnd).1 (hmc.trans hni'.symm)
          subst hmk
          constructor
          · intro _; omega
          · intro _; simp [hil]
        · rw [getD_set_ne false hci, hk m c hmc]
          constructor
          · intro hlt; omega
          · intro hlt
            rcases Nat.lt_or_ge m k with g | g
            · exact g
            · have : m = k := by omega
              subst this
              rw [hni'] at hmc
              exact absurd (Option.some.inj hmc) hci
      · exact ⟨k, hkl, hsame hc, hop.2 hc k w hC⟩
    obtain ⟨k', hkl', hk', hup⟩ := key
    generalize (execOp aF.eval o).run P w = r at hup
    cases r with
    | ok n w' =>
      cases n <;> simp only [stageUpon] at hup <;> simp only [Oper.upon]
      case value u =>
        obtain ⟨rfl, hc⟩ := hup
        exact hK _ _ (h.put ho hv ⟨k', hkl', hk', hc⟩)
      case skip =>
        obtain ⟨rfl, hc⟩ := hup
        exact hK _ _ (h.put ho hv ⟨k', hkl', hk', hc⟩)
      case enter f args =>
        refine hup.mono fun e w'' hh => ?_
        obtain ⟨rfl, hc⟩ := hh
        exact hK _ _ (h.put ho hv ⟨k', hkl', hk', hc⟩)
    | halt x w' => simp only [stageUpon] at hup
  · rw [if_neg hw] at hop ⊢
    obtain ⟨rfl, hni⟩ := hop
    exact hK _ _ (h.put ho hv ⟨k, hkl, hsame hni, hC⟩)
theorem wpAny_of_stage {Q : Exit → Act → World → Prop} (hB : stageB md ops chain = true) (hsel : ∀ (j : Nat) (o : Oper) cs b, ops[j]? = some o → o.op ≠ .select cs b)
    (hops : ∀ i o, ops[i]? = some o → OpOk P ops chain aF Cl i o) (hin : ∀ c ∈ chain, c < ops.size) (hQ : ∀ w, Cl chain.length w → Q .normal aF w) : ∀ (fuel : Nat) (listed : Array Bool) (a : Act) (w : World),
    ((List.range ops.size).filter fun j => !listed.getD j true).length = fuel → St ops chain aF Cl listed a w → wpAny P md ops Q fuel listed a w := by
  have hdone : ∀ (listed : Array Bool) (a : Act) (w : World), (∀ j, j < ops.size → listed.getD j true = true) → St ops chain aF Cl listed a w → Q .normal a w := by
    intro listed a w hall h
    have e : a = aF := by
      have hd := h.defers
      have ht : a.tmps = aF.tmps := by
        apply Array.ext_getElem?
        intro t
        refine h.val t fun j hj => ?_
        have hjl : j < ops.size := by
          unfold dstOf at hj
          cases hx : ops[j]? with
          | none => rw [hx] at hj; cases hj
          | some x => exact (Array.getElem?_eq_some_iff.1 hx).1
        rw [getD_two (by rw [h.lsize]; exact hjl) false true]
        exact hall j hjl
      cases a; cases aF
      simp only at hd ht
      subst hd ht
      rfl
    subst e
    obtain ⟨k, hkl, hk, hC⟩ := h.stage
    have hke : k = chain.length := by
      rcases Nat.lt_or_ge k chain.length with g | g
      · exfalso
        have hc : chain[k]? = some chain[k] := List.getElem?_eq_getElem g
        have hcl := hin _ (List.getElem_mem g)
        have := (hk k _ hc).1 (by rw [getD_two (by rw [h.lsize]; exact hcl) false true]; exact hall _ hcl)
        omega
      · omega
    subst hke
    exact hQ w hC
  have hready : ∀ (listed : Array Bool), listed.size = ops.size → Region.ready md ops listed = [] → ∀ j, j < ops.size → listed.getD j true = true := by
    intro listed hsz hnil
    have key : ∀ k, k ≤ ops.size → ∀ j, j < k → listed.getD j false = true := by
      intro k
      induction k with
      | zero => intro _ j hj; omega
      | succ k ih =>
        intro hk j hj
        by_cases hjk : j = k
        · subst hjk
          by_cases hl : listed.getD j false = true
          · exact hl
          · exfalso
            have hjs : j < ops.size := by omega
            have hj4 := (stageB_at hB (Array.getElem?_eq_getElem hjs)).2
            have : j ∈ Region.ready md ops listed := mem_ready.2 ⟨by rw [getD_two (by omega) true false]; simpa using hl, ops[j], Array.getElem?_eq_getElem hjs, fun e he hb => ih (by omega) _ (hj4 e he hb)⟩
            rw [hnil] at this; cases this
        · exact ih (by omega) j (by omega)
    intro j hj
    rw [getD_two (by omega) true false]
    exact key ops.size (Nat.le_refl _) j hj
  intro fuel
  induction fuel with
  | zero =>
    intro listed a w hc h
    have hall : ∀ j, j < ops.size → listed.getD j true = true := by
      intro j hj
      have := List.length_eq_zero_iff.1 hc
      have h1 := List.filter_eq_nil_iff.1 this j (List.mem_range.2 hj)
      simpa using h1
    refine ⟨?_, hdone listed a w hall h⟩
    cases hr : Region.ready md ops listed with
    | nil => rfl
    | cons i r =>
      have hi : i ∈ Region.ready md ops listed := by rw [hr]; exact List.mem_cons_self
      obtain ⟨hun, o, ho, _⟩ := mem_ready.1 hi
      rw [hall i (Array.getElem?_eq_some_iff.1 ho).1] at hun
      cases hun
  | succ fuel ih =>
    intro listed a w hc h
    refine ⟨fun hnil => hdone listed a w (hready listed h.lsize hnil) h, fun i hi => ?_⟩
    refine h.step hB hi hops hsel _ fun a' w' h' => ih _ a' w' ?_ h'
    obtain ⟨hun, o, ho, _⟩ := mem_ready.1 hi
    have him : i < ops.size := (Array.getElem?_eq_some_iff.1 ho).1
    have hlt : i < listed.size := by rw [h.lsize]; exact him
    have e1 : (List.range ops.size).filter (fun j => !(listed.setIfInBounds i true).getD j true) = ((List.range ops.size).filter fun j => !listed.getD j true).filter (· != i) := by
      rw [List.filter_filter]
      apply List.filter_congr
      intro j _
      by_cases hji : i = j
      · subst hji; simp [hlt]
      · rw [getD_set_ne true hji]
        have : (j != i) = true := by simpa using Ne.symm hji
        rw [this]; simp
    have hnd : ((List.range ops.size).filter fun j => !listed.getD j true).Nodup := List.nodup_range.filter _
    have hmem : i ∈ (List.range ops.size).filter fun j => !listed.getD j true := List.mem_filter.2 ⟨List.mem_range.2 him, by rw [hun]; rfl⟩
    rw [e1, ← hnd.erase_eq_filter, List.length_erase_of_mem hmem, hc]
    rfl
/-- A REGION THAT DRAWS ITS ORDER, with a chain of operations that change the world: aF: the frame as it will be; Cl k: the worlds in which k of the chain are done. -/
theorem wp_region_stage {id : Nat} {Q : Exit → Act → World → Prop} {a : Act} {w : World} (chain : List Nat) (aF : Act) (Cl : Nat → World → Prop) (hm : P.follows .mixedOrders = true) (hB : stageB .any ops chain = true) (hs : Region.noSelect ops = true)
    (hops : ∀ i o, ops[i]? = some o → OpOk P ops chain aF Cl i o) (hin : ∀ c ∈ chain, c < ops.size) (hd : a.defers = aF.defers) (hz : a.tmps.size = aF.tmps.size)
    (hv : ∀ t, (∀ j, dstOf ops j ≠ some t) → a.tmps[t]? = aF.tmps[t]?) (h0 : Cl 0 w.drew) (hQ : ∀ w, Cl chain.length w → Q .normal aF w) : (Code.region id ops true).wp P Q a w := by
  have hrep : ∀ j, (Array.replicate ops.size false).getD j false = false := fun j => by
    simp only [Array.getD_eq_getD_getElem?, Array.getElem?_replicate]
    split <;> rfl
  refine wp_region_any hm ?_
  refine wpAny_of_stage (chain := chain) (aF := aF) (Cl := Cl) hB (Region.noSelect_spec hs) hops hin hQ ops.size (Array.replicate ops.size false) a _ ?_ ?_
  · rw [List.filter_eq_self.2 (fun j hj => by simp [List.mem_range.1 hj])]
    simp
  · refine ⟨hd, hz, fun t ht => hv t fun j hj => ?_, by simp, 0, Nat.zero_le _, fun n c _ => ?_, h0⟩
    · have := ht j hj
      rw [hrep] at this
      cases this
    · rw [hrep]
      simp

def putAll (puts : List (Tmp × Value)) (a : Act) : Act := puts.foldl (fun a x => a.put (some x.1) x.2) a
theorem putAll_defers (puts : List (Tmp × Value)) : ∀ a, (putAll puts a).defers = a.defers := by
  induction puts with
  | nil => intro a; rfl
  | cons x r ih => intro a; exact (ih _).trans rfl
theorem putAll_size (puts : List (Tmp × Value)) : ∀ a, (putAll puts a).tmps.size = a.tmps.size := by
  induction puts with
  | nil => intro a; rfl
  | cons x r ih => intro a; exact (ih _).trans (by simp [Act.put])
theorem putAll_other (puts : List (Tmp × Value)) (t : Tmp) (h : ∀ x ∈ puts, x.1 ≠ t) : ∀ a, (putAll puts a).tmps[t]? = a.tmps[t]? := by
  induction puts with
  | nil => intro a; rfl
  | cons x r ih =>
    intro a
    refine (ih (fun y hy => h y (by simp [hy])) _).trans ?_
    simp only [Act.put, Array.getElem?_setIfInBounds_ne (h x (by simp))]
def OpsOk (P : Program) (ops : Array Oper) (chain : List Nat) (aF : Act) (Cl : Nat → World → Prop) : Nat → List Oper → Prop
  | _, [] => True
  | k, o :: r => OpOk P ops chain aF Cl k o ∧ OpsOk P ops chain aF Cl (k + 1) r
theorem OpsOk.at_ {l : List Oper} : ∀ {k : Nat}, OpsOk P ops chain aF Cl k l → ∀ i o, l[i]? = some o → OpOk P ops chain aF Cl (k + i) o := by
  induction l with
  | nil => intro k _ i o h; simp at h
  | cons x r ih =>
    intro k h i o hi
    cases i with
    | zero => simp only [List.getElem?_cons_zero, Option.some.injEq] at hi; subst hi; exact h.1
    | succ i =>
      simp only [List.getElem?_cons_succ] at hi
      have := ih h.2 i o hi
      rw [show k + (i + 1) = k + 1 + i by omega]
      exact this
theorem opOk_quiet {i : Nat} {o : Oper} (v : Value) (hv : ∀ d, o.dst = some d → d < aF.tmps.size → aF.tmps[d]? = some v) (hw : Region.wanted o (yielded ops aF.tmps) = true) (hni : i ∉ chain)
    (h : ∀ k w, Cl k w → stageUpon P (Cl k) v ((execOp aF.eval o).run P w)) : OpOk P ops chain aF Cl i o :=
  ⟨v, hv, by rw [if_pos hw]; exact ⟨fun k hk => absurd (List.mem_of_getElem? hk) hni, fun _ => h⟩⟩
theorem opOk_chain {i : Nat} {o : Oper} (n : Nat) (v : Value) (hv : ∀ d, o.dst = some d → d < aF.tmps.size → aF.tmps[d]? = some v) (hw : Region.wanted o (yielded ops aF.tmps) = true) (hn : chain[n]? = some i) (hnd : chain.Nodup)
    (h : ∀ w, Cl n w → stageUpon P (Cl (n + 1)) v ((execOp aF.eval o).run P w)) : OpOk P ops chain aF Cl i o :=
  ⟨v, hv, by
    rw [if_pos hw]
    refine ⟨fun k hk => ?_, fun hni => absurd (List.mem_of_getElem? hn) hni⟩
    have : k = n := (List.getElem?_inj (List.getElem?_eq_some_iff.1 hk).1 hnd).1 (hk.trans hn.symm)
    subst this
    exact h⟩
/-- the same, the frame as it will be given by what is put -/
theorem wp_region_puts {id : Nat} {Q : Exit → Act → World → Prop} {a : Act} {w : World} {l : List Oper} (chain : List Nat) (puts : List (Tmp × Value)) (Cl : Nat → World → Prop) (hm : P.follows .mixedOrders = true)
    (hB : stageB .any l.toArray chain = true) (hs : Region.noSelect l.toArray = true) (hin : (chain.all fun c => decide (c < l.length)) = true)
    (hp : (puts.all fun x => (List.range l.length).any fun j => dstOf l.toArray j == some x.1) = true)
    (h0 : Cl 0 w.drew) (hops : ∀ aF, putAll puts a = aF → OpsOk P l.toArray chain aF Cl 0 l) (hQ : ∀ w, Cl chain.length w → Q .normal (putAll puts a) w) : (Code.region id l.toArray true).wp P Q a w := by
  refine wp_region_stage chain (putAll puts a) Cl hm hB hs (fun i o ho => ?_) (fun c hc => ?_) (putAll_defers puts a).symm (putAll_size puts a).symm (fun t ht => (putAll_other puts t (fun x hx e => ?_) a).symm) h0 hQ
  · have := (hops _ rfl).at_ i o (by simpa using ho)
    rwa [Nat.zero_add] at this
  · have := List.all_eq_true.1 hin c hc
    simpa using this
  · have := List.all_eq_true.1 hp x hx
    rw [List.any_eq_true] at this
    obtain ⟨j, _, hj⟩ := this
    rw [beq_iff_eq] at hj
    exact ht j (e ▸ hj)
end
end Go.Proofs.Ytpbmeeogledmdae
namespace Go.Proofs.Ytpbmeeogledmdae
open Go.RowKit
section
variable {P : Program} {ops : Array Oper} {md : Region.Mode} {chain : List Nat} {X : Type} {aF : X → Act} {Cl : X → Nat → World → Prop} {late : Nat → List Nat}

/-- what hangs on an operation: it, and who waits for such -/
def lateOf (md : Region.Mode) (ops : Array Oper) (r : Nat) : List Nat :=
  (List.range ops.size).foldl (fun acc i => if i == r || (match ops[i]? with | some o => o.after.any fun e => Region.binds md e && acc.contains e.on | none => false) then acc ++ [i] else acc) []
def lateB (md : Region.Mode) (ops : Array Oper) (r : Nat) (L : List Nat) : Bool :=
  L.all fun c => c == r || match ops[c]? with | some o => o.after.any fun e => Region.binds md e && L.contains e.on | none => false
def Agree (ops : Array Oper) (L : List Nat) (a b : Act) : Prop := ∀ t, (∀ c ∈ L, dstOf ops c ≠ some t) → a.tmps[t]? = b.tmps[t]?
def upon2 (P : Program) (R : Value → World → Prop) : Result Next → Prop
  | .ok (.value u) w' => R u w'
  | .ok .skip w' => R undef w'
  | .ok (.enter f args) w' => Calls P f args w' fun e w'' => ∃ v, e = .returned v ∧ R v w''
  | _ => False
/-- quiet at each stage at which none of the chain is done that waits for it -/
def OpOk2 (P : Program) (md : Region.Mode) (ops : Array Oper) (chain : List Nat) (late : Nat → List Nat) (aF : X → Act) (Cl : X → Nat → World → Prop) (i : Nat) (o : Oper) : Prop :=
  (i ∉ chain ∧ ∃ L, lateB md ops i L = true ∧ ∀ x, ∃ v, (∀ d, o.dst = some d → d < (aF x).tmps.size → (aF x).tmps[d]? = some v) ∧
    if Region.wanted o (yielded ops (aF x).tmps) = true then ∀ k w, (∀ m c, chain[m]? = some c → c ∈ L → k ≤ m) → (∀ m c, chain[m]? = some c → (o.after.any fun e => Region.binds md e && e.on == c) = true → m < k) → Cl x k w → stageUpon P (Cl x k) v ((execOp (aF x).eval o).run P w) else v = undef) ∨
  (o.guard = none ∧ i ∈ chain ∧ ∀ k, chain[k]? = some i → ∀ x w, Cl x k w → upon2 P (fun u w' => ∃ x', Agree ops (late k) (aF x) (aF x') ∧ (∀ d, o.dst = some d → d < (aF x').tmps.size → (aF x').tmps[d]? = some u) ∧ Cl x' (k + 1) w')
    ((execOp (aF x).eval o).run P w))
/-- what is listed has all that it waits for listed -/
def Down (md : Region.Mode) (ops : Array Oper) (listed : Array Bool) : Prop :=
  ∀ i o, ops[i]? = some o → listed.getD i false = true → ∀ e ∈ o.after, Region.binds md e = true → listed.getD e.on false = true
theorem late_none {listed : Array Bool} {r : Nat} {L : List Nat} (hB : stageB md ops chain = true) (hL : lateB md ops r L = true) (hD : Down md ops listed) (hr : listed.getD r false = false) : ∀ c ∈ L, listed.getD c false = false := by
  have key : ∀ n c, c ≤ n → c ∈ L → listed.getD c false = false := by
    intro n
    induction n with
    | zero =>
      intro c hc hcL
      have h1 := List.all_eq_true.1 hL c hcL
      rw [Bool.or_eq_true, beq_iff_eq] at h1
      rcases h1 with rfl | h1
      · exact hr
      · cases ho : ops[c]? with
        | none => rw [ho] at h1; cases h1
        | some o =>
          rw [ho] at h1
          obtain ⟨e, he, hb⟩ := Array.any_eq_true'.1 h1
          rw [Bool.and_eq_true] at hb
          have := (stageB_at hB ho).2 e he hb.1
          omega
    | succ n ih =>
      intro c hc hcL
      have h1 := List.all_eq_true.1 hL c hcL
      rw [Bool.or_eq_true, beq_iff_eq] at h1
      rcases h1 with rfl | h1
      · exact hr
      · cases ho : ops[c]? with
        | none => rw [ho] at h1; cases h1
        | some o =>
          rw [ho] at h1
          obtain ⟨e, he, hb⟩ := Array.any_eq_true'.1 h1
          rw [Bool.and_eq_true] at hb
          have h2 := (stageB_at hB ho).2 e he hb.1
          have h3 := ih e.on (by omega) (by simpa using hb.2)
          cases hl : listed.getD c false with
          | false => rfl
          | true =>
            have := hD c o ho hl e he hb.1
            rw [h3] at this
            cases this
  intro c hc
  exact key c c (Nat.le_refl _) hc
theorem St.step2 {Q : Exit → Act → World → Prop} (hB : stageB md ops chain = true) {listed : Array Bool} {a : Act} {w : World} {x : X} (hd : ∀ x y, (aF x).defers = (aF y).defers) (hz : ∀ x y, (aF x).tmps.size = (aF y).tmps.size)
    (hL : ∀ k r, chain[k]? = some r → lateB md ops r (late k) = true) (h : St ops chain (aF x) (Cl x) listed a w) (hD : Down md ops listed) {i : Nat} (hr : i ∈ Region.ready md ops listed)
    (hops : ∀ i o, ops[i]? = some o → OpOk2 P md ops chain late aF Cl i o) (hsel : ∀ (j : Nat) (o : Oper) cs b, ops[j]? = some o → o.op ≠ .select cs b) (K : Act → World → Prop)
    (hK : ∀ x' a' w', St ops chain (aF x') (Cl x') (listed.setIfInBounds i true) a' w' → Down md ops (listed.setIfInBounds i true) → K a' w') : wpOp P ops Q i K a w := by
  obtain ⟨hun, o, ho, hall⟩ := mem_ready.1 hr
  have hil : i < listed.size := by rw [h.lsize]; exact (Array.getElem?_eq_some_iff.1 ho).1
  have hunf : listed.getD i false = false := by rw [getD_two hil false true]; exact hun
  have hD' : Down md ops (listed.setIfInBounds i true) := by
    intro j oj hoj hlj e he hb
    by_cases hei : i = e.on
    · rw [← hei]; simp [hil]
    · rw [getD_set_ne false hei]
      by_cases hij : i = j
      · subst hij
        rw [ho] at hoj
        cases hoj
        exact hall e he hb
      · rw [getD_set_ne false hij] at hlj
        exact hD j oj hoj hlj e he hb
  rcases hops i o ho with ⟨hni, L, hLi, hq⟩ | ⟨hg, hic, hch⟩
  · have hag := h.reads hB ho hall
    obtain ⟨v, hv, hop⟩ := hq x
    obtain ⟨k, hkl, hk, hC⟩ := h.stage
    have hsame : ∀ n c, chain[n]? = some c → ((listed.setIfInBounds i true).getD c false = true ↔ n < k) := fun n c hc => by
      have hne : i ≠ c := fun e => hni (by subst e; exact List.mem_of_getElem? hc)
      rw [getD_set_ne false hne]
      exact hk n c hc
    unfold wpOp
    simp only [ho]
    rw [wanted_agree hag]
    by_cases hw : Region.wanted o (yielded ops (aF x).tmps) = true
    · rw [if_pos hw] at hop ⊢
      left
      unfold Oper.wp
      rw [execOp_congr o (fun cs b => hsel i o cs b ho) (eval_agree hag)]
      have hfree := late_none hB hLi hD hunf
      have hup := hop k w (fun m c hmc hcL => by
        rcases Nat.lt_or_ge m k with g | g
        · have := (hk m c hmc).2 g
          rw [hfree c hcL] at this
          cases this
        · exact g) (fun m c hmc hon => by
        obtain ⟨e, he, hb⟩ := Array.any_eq_true'.1 hon
        rw [Bool.and_eq_true, beq_iff_eq] at hb
        have := hall e he hb.1
        rw [hb.2] at this
        exact (hk m c hmc).1 this) hC
      generalize (execOp (aF x).eval o).run P w = r at hup
      cases r with
      | ok n w' =>
        cases n <;> simp only [stageUpon] at hup <;> simp only [Oper.upon]
        case value u =>
          obtain ⟨rfl, hc⟩ := hup
          exact hK x _ _ (h.put ho hv ⟨k, hkl, hsame, hc⟩) hD'
        case skip =>
          obtain ⟨rfl, hc⟩ := hup
          exact hK x _ _ (h.put ho hv ⟨k, hkl, hsame, hc⟩) hD'
        case enter f args =>
          refine hup.mono fun e w'' hh => ?_
          obtain ⟨rfl, hc⟩ := hh
          exact hK x _ _ (h.put ho hv ⟨k, hkl, hsame, hc⟩) hD'
      | halt x w' => simp only [stageUpon] at hup
    · rw [if_neg hw] at hop ⊢
      subst hop
      exact hK x _ _ (h.put ho hv ⟨k, hkl, hsame, hC⟩) hD'
  · have hag := h.reads hB ho hall
    obtain ⟨k, hkl, hk, hC⟩ := h.stage
    obtain ⟨n, hn, hni⟩ := List.getElem_of_mem hic
    have hni' : chain[n]? = some i := by rw [List.getElem?_eq_getElem hn, hni]
    have hnk : ¬ n < k := fun hlt => by
      have := (hk n i hni').2 hlt
      rw [hunf] at this; cases this
    have hkn : k = n := by
      cases n with
      | zero => omega
      | succ n =>
        have hp : chain[n]? = some chain[n] := List.getElem?_eq_getElem (by omega)
        obtain ⟨e, he, hb, hon⟩ := stageB_chain hB hp hni' ho
        have := hall e he hb
        rw [hon] at this
        have := (hk n _ hp).1 this
        omega
    subst hkn
    have hst : ∀ n c, chain[n]? = some c → ((listed.setIfInBounds i true).getD c false = true ↔ n < k + 1) := fun m c hmc => by
      by_cases hci : i = c
      · subst hci
        have hmk : m = k := by
          have hnd := stageB_nodup hB
          have hml := (List.getElem?_eq_some_iff.1 hmc).1
          exact (List.getElem?_inj hml hnd).1 (hmc.trans hni'.symm)
        subst hmk
        constructor
        · intro _; omega
        · intro _; simp [hil]
      · rw [getD_set_ne false hci, hk m c hmc]
        constructor
        · intro hlt; omega
        · intro hlt
          rcases Nat.lt_or_ge m k with g | g
          · exact g
          · have : m = k := by omega
            subst this
            rw [hni'] at hmc
            exact absurd (Option.some.inj hmc) hci
    have hlate := late_none hB (hL k i hni') hD hunf
    have hput : ∀ u x' w', Agree ops (late k) (aF x) (aF x') → (∀ d, o.dst = some d → d < (aF x').tmps.size → (aF x').tmps[d]? = some u) → Cl x' (k + 1) w' → St ops chain (aF x') (Cl x') (listed.setIfInBounds i true) (a.put o.dst u) w' := by
      intro u x' w' hagr hv hc
      have h' : St ops chain (aF x') (fun _ _ => True) listed a w := by
        refine ⟨h.defers.trans (hd x x'), h.size.trans (hz x x'), fun t ht => ?_, h.lsize, k, hkl, hk, trivial⟩
        rw [h.val t ht]
        refine hagr t fun c hc e => ?_
        have h1 := ht c e
        rw [hlate c hc] at h1
        cases h1
      have h2 := h'.put ho hv (w' := w') (Cl := fun _ _ => True) ⟨k + 1, hn, hst, trivial⟩
      exact ⟨h2.defers, h2.size, h2.val, h2.lsize, k + 1, hn, hst, hc⟩
    unfold wpOp
    simp only [ho]
    rw [show Region.wanted o (yielded ops a.tmps) = true by unfold Region.wanted; rw [hg], if_pos rfl]
    left
    unfold Oper.wp
    rw [execOp_congr o (fun cs b => hsel i o cs b ho) (eval_agree hag)]
    have hup := hch k hni' x w hC
    generalize (execOp (aF x).eval o).run P w = r at hup
    cases r with
    | ok n w' =>
      cases n <;> simp only [upon2] at hup <;> simp only [Oper.upon]
      case value u =>
        obtain ⟨x', h1, h2, h3⟩ := hup
        exact hK x' _ _ (hput _ x' _ h1 h2 h3) hD'
      case skip =>
        obtain ⟨x', h1, h2, h3⟩ := hup
        exact hK x' _ _ (hput _ x' _ h1 h2 h3) hD'
      case enter f args =>
        refine hup.mono fun e w'' hh => ?_
        obtain ⟨v, rfl, x', h1, h2, h3⟩ := hh
        exact hK x' _ _ (hput _ x' _ h1 h2 h3) hD'
    | halt x w' => simp only [upon2] at hup
theorem wpAny_of_tell {Q : Exit → Act → World → Prop} (hB : stageB md ops chain = true) (hsel : ∀ (j : Nat) (o : Oper) cs b, ops[j]? = some o → o.op ≠ .select cs b) (hd : ∀ x y, (aF x).defers = (aF y).defers) (hz : ∀ x y, (aF x).tmps.size = (aF y).tmps.size)
    (hL : ∀ k r, chain[k]? = some r → lateB md ops r (late k) = true)
    (hops : ∀ i o, ops[i]? = some o → OpOk2 P md ops chain late aF Cl i o) (hin : ∀ c ∈ chain, c < ops.size) (hQ : ∀ x w, Cl x chain.length w → Q .normal (aF x) w) : ∀ (fuel : Nat) (listed : Array Bool) (a : Act) (w : World) (x : X),
    ((List.range ops.size).filter fun j => !listed.getD j true).length = fuel → St ops chain (aF x) (Cl x) listed a w → Down md ops listed → wpAny P md ops Q fuel listed a w := by
  have hdone : ∀ (listed : Array Bool) (a : Act) (w : World) (x : X), (∀ j, j < ops.size → listed.getD j true = true) → St ops chain (aF x) (Cl x) listed a w → Q .normal a w := by
    intro listed a w x hall h
    have e : a = aF x := by
      have hd := h.defers
      have ht : a.tmps = (aF x).tmps := by
        apply Array.ext_getElem?
        intro t
        refine h.val t fun j hj => ?_
        have hjl : j < ops.size := by
          unfold dstOf at hj
          cases hx : ops[j]? with
          | none => rw [hx] at hj; cases hj
          | some x => exact (Array.getElem?_eq_some_iff.1 hx).1
        rw [getD_two (by rw [h.lsize]; exact hjl) false true]
        exact hall j hjl
      generalize aF x = af at hd ht
      cases a; cases af
      simp only at hd ht
      subst hd ht
      rfl
    obtain ⟨k, hkl, hk, hC⟩ := h.stage
    have hke : k = chain.length := by
      rcases Nat.lt_or_ge k chain.length with g | g
      · exfalso
        have hc : chain[k]? = some chain[k] := List.getElem?_eq_getElem g
        have hcl := hin _ (List.getElem_mem g)
        have := (hk k _ hc).1 (by rw [getD_two (by rw [h.lsize]; exact hcl) false true]; exact hall _ hcl)
        omega
      · omega
    rw [hke] at hC
    rw [e]
    exact hQ x w hC
  have hready : ∀ (listed : Array Bool), listed.size = ops.size → Region.ready md ops listed = [] → ∀ j, j < ops.size → listed.getD j true = true := by
    intro listed hsz hnil
    have key : ∀ k, k ≤ ops.size → ∀ j, j < k → listed.getD j false = true := by
      intro k
      induction k with
      | zero => intro _ j hj; omega
      | succ k ih =>
        intro hk j hj
        by_cases hjk : j = k
        · subst hjk
          by_cases hl : listed.getD j false = true
          · exact hl
          · exfalso
            have hjs : j < ops.size := by omega
            have hj4 := (stageB_at hB (Array.getElem?_eq_getElem hjs)).2
            have : j ∈ Region.ready md ops listed := mem_ready.2 ⟨by rw [getD_two (by omega) true false]; simpa using hl, ops[j], Array.getElem?_eq_getElem hjs, fun e he hb => ih (by omega) _ (hj4 e he hb)⟩
            rw [hnil] at this; cases this
        · exact ih (by omega) j (by omega)
    intro j hj
    rw [getD_two (by omega) true false]
    exact key ops.size (Nat.le_refl _) j hj
  intro fuel
  induction fuel with
  | zero =>
    intro listed a w x hc h _
    have hall : ∀ j, j < ops.size → listed.getD j true = true := by
      intro j hj
      have := List.length_eq_zero_iff.1 hc
      have h1 := List.filter_eq_nil_iff.1 this j (List.mem_range.2 hj)
      simpa using h1
    refine ⟨?_, hdone listed a w x hall h⟩
    cases hr : Region.ready md ops listed with
    | nil => rfl
    | cons i r =>
      have hi : i ∈ Region.ready md ops listed := by rw [hr]; exact List.mem_cons_self
      obtain ⟨hun, o, ho, _⟩ := mem_ready.1 hi
      rw [hall i (Array.getElem?_eq_some_iff.1 ho).1] at hun
      cases hun
  | succ fuel ih =>
    intro listed a w x hc h hD
    refine ⟨fun hnil => hdone listed a w x (hready listed h.lsize hnil) h, fun i hi => ?_⟩
    refine h.step2 hB hd hz hL hD hi hops hsel _ fun x' a' w' h' hD' => ih _ a' w' x' ?_ h' hD'
    obtain ⟨hun, o, ho, _⟩ := mem_ready.1 hi
    have him : i < ops.size := (Array.getElem?_eq_some_iff.1 ho).1
    have hlt : i < listed.size := by rw [h.lsize]; exact him
    have e1 : (List.range ops.size).filter (fun j => !(listed.setIfInBounds i true).getD j true) = ((List.range ops.size).filter fun j => !listed.getD j true).filter (· != i) := by
      rw [List.filter_filter]
      apply List.filter_congr
      intro j _
      by_cases hji : i = j
      · subst hji; simp [hlt]
      · rw [getD_set_ne true hji]
        have : (j != i) = true := by simpa using Ne.symm hji
        rw [this]; simp
    have hnd : ((List.range ops.size).filter fun j => !listed.getD j true).Nodup := List.nodup_range.filter _
    have hmem : i ∈ (List.range ops.size).filter fun j => !listed.getD j true := List.mem_filter.2 ⟨List.mem_range.2 him, by rw [hun]; rfl⟩
    rw [e1, ← hnd.erase_eq_filter, List.length_erase_of_mem hmem, hc]
    rfl
def OpsOk2 (P : Program) (md : Region.Mode) (ops : Array Oper) (chain : List Nat) (late : Nat → List Nat) (aF : X → Act) (Cl : X → Nat → World → Prop) : Nat → List Oper → Prop
  | _, [] => True
  | k, o :: r => OpOk2 P md ops chain late aF Cl k o ∧ OpsOk2 P md ops chain late aF Cl (k + 1) r
theorem OpsOk2.at_ {l : List Oper} : ∀ {k : Nat}, OpsOk2 P md ops chain late aF Cl k l → ∀ i o, l[i]? = some o → OpOk2 P md ops chain late aF Cl (k + i) o := by
  induction l with
  | nil => intro k _ i o h; simp at h
  | cons x r ih =>
    intro k h i o hi
    cases i with
    | zero => simp only [List.getElem?_cons_zero, Option.some.injEq] at hi; subst hi; exact h.1
    | succ i =>
      simp only [List.getElem?_cons_succ] at hi
      have := ih h.2 i o hi
      rw [show k + (i + 1) = k + 1 + i by omega]
      exact this
/-- A REGION THAT DRAWS ITS ORDER, with a chain whose values become known on the way (x): puts x: the slots, if it went so. -/
theorem wp_region_tell {id : Nat} {Q : Exit → Act → World → Prop} {a : Act} {w : World} {l : List Oper} (x0 : X) (chain : List Nat) (puts : X → List (Tmp × Value)) (Cl : X → Nat → World → Prop) (hm : P.follows .mixedOrders = true)
    (hB : stageB .any l.toArray chain = true) (hs : Region.noSelect l.toArray = true) (hin : (chain.all fun c => decide (c < l.length)) = true)
    (hL : ((List.range chain.length).all fun k => lateB .any l.toArray (chain.getD k 0) (lateOf .any l.toArray (chain.getD k 0))) = true)
    (hp : ∀ x, ((puts x).all fun x => (List.range l.length).any fun j => dstOf l.toArray j == some x.1) = true)
    (h0 : Cl x0 0 w.drew) (hops : ∀ aF, aF = (fun x => putAll (puts x) a) → OpsOk2 P .any l.toArray chain (fun k => lateOf .any l.toArray (chain.getD k 0)) aF Cl 0 l) (hQ : ∀ x w, Cl x chain.length w → Q .normal (putAll (puts x) a) w) : (Code.region id l.toArray true).wp P Q a w := by
  have hrep : ∀ j, (Array.replicate l.toArray.size false).getD j false = false := fun j => by
    simp only [Array.getD_eq_getD_getElem?, Array.getElem?_replicate]
    split <;> rfl
  refine wp_region_any hm ?_
  refine wpAny_of_tell (chain := chain) (aF := fun x => putAll (puts x) a) (Cl := Cl) (late := fun k => lateOf .any l.toArray (chain.getD k 0)) hB (Region.noSelect_spec hs) (fun x y => ((putAll_defers (puts x) a).trans (putAll_defers (puts y) a).symm)) (fun x y => ((putAll_size (puts x) a).trans (putAll_size (puts y) a).symm))
    (fun k r hk => ?_) (fun i o ho => ?_) (fun c hc => ?_) hQ l.toArray.size (Array.replicate l.toArray.size false) a _ x0 ?_ ?_ (fun i o _ hl => by rw [hrep] at hl; cases hl)
  · have hkl := (List.getElem?_eq_some_iff.1 hk).1
    have := List.all_eq_true.1 hL k (List.mem_range.2 hkl)
    rw [List.getD_eq_getElem?_getD, hk] at this
    show lateB .any l.toArray r (lateOf .any l.toArray (chain.getD k 0)) = true
    rw [List.getD_eq_getElem?_getD, hk]
    exact this
  · have := (hops _ rfl).at_ i o (by simpa using ho)
    rwa [Nat.zero_add] at this
  · have := List.all_eq_true.1 hin c hc
    simpa using this
  · rw [List.filter_eq_self.2 (fun j hj => by have hj' : j < l.length := by simpa using hj
                                              simp [hj'])]
    simp
  · refine ⟨(putAll_defers (puts x0) a).symm, (putAll_size (puts x0) a).symm, fun t ht => ?_, by simp, 0, Nat.zero_le _, fun n c _ => ?_, h0⟩
    · refine (putAll_other (puts x0) t (fun y hy e => ?_) a).symm
      have := List.all_eq_true.1 (hp x0) y hy
      rw [List.any_eq_true] at this
      obtain ⟨j, _, hj⟩ := this
      rw [beq_iff_eq] at hj
      have := ht j (e ▸ hj)
      rw [hrep] at this
      cases this
    · rw [hrep]
      simp
theorem putAll_append (p q : List (Tmp × Value)) (a : Act) : putAll (p ++ q) a = putAll q (putAll p a) := List.foldl_append
theorem agree_same (L : List Nat) (a : Act) : Agree ops L a a := fun _ _ => rfl
theorem agree_puts (L : List Nat) (pre p q : List (Tmp × Value)) (a : Act) (h : ∀ y ∈ p ++ q, ∃ c ∈ L, dstOf ops c = some y.1) : Agree ops L (putAll (pre ++ p) a) (putAll (pre ++ q) a) := by
  intro t ht
  have e : ∀ r : List (Tmp × Value), (∀ y ∈ r, y ∈ p ++ q) → (putAll (pre ++ r) a).tmps[t]? = (putAll pre a).tmps[t]? := fun r hr => by
    rw [putAll_append]
    refine putAll_other r t (fun y hy e => ?_) _
    obtain ⟨c, hc, hd⟩ := h y (hr y hy)
    exact ht c hc (e ▸ hd)
  rw [e p (fun y hy => List.mem_append_left _ hy), e q (fun y hy => List.mem_append_right _ hy)]
theorem agree_any {L : List Nat} {pre p q : List (Tmp × Value)} {a : Act} (hp : (p.all fun y => L.any fun c => dstOf ops c == some y.1) = true) (hq : (q.all fun y => L.any fun c => dstOf ops c == some y.1) = true) : Agree ops L (putAll (pre ++ p) a) (putAll (pre ++ q) a) := by
  refine agree_puts L pre p q a fun y hy => ?_
  have : (L.any fun c => dstOf ops c == some y.1) = true := by
    rcases List.mem_append.1 hy with h | h
    · exact List.all_eq_true.1 hp y h
    · exact List.all_eq_true.1 hq y h
  rw [List.any_eq_true] at this
  obtain ⟨c, hc, hd⟩ := this
  exact ⟨c, hc, by simpa using hd⟩
theorem agree_any2 {L : List Nat} {pre m p q : List (Tmp × Value)} {a : Act} (hp : (p.all fun y => L.any fun c => dstOf ops c == some y.1) = true) (hq : (q.all fun y => L.any fun c => dstOf ops c == some y.1) = true) : Agree ops L (putAll (pre ++ (m ++ p)) a) (putAll (pre ++ (m ++ q)) a) := by
  rw [← List.append_assoc, ← List.append_assoc]
  exact agree_any hp hq
theorem opOk2_quiet {i : Nat} {o : Oper} (v : X → Value) (hv : ∀ x d, o.dst = some d → d < (aF x).tmps.size → (aF x).tmps[d]? = some (v x)) (hw : ∀ x, Region.wanted o (yielded ops (aF x).tmps) = true) (hni : i ∉ chain)
    (h : ∀ x k w, Cl x k w → stageUpon P (Cl x k) (v x) ((execOp (aF x).eval o).run P w)) : OpOk2 P md ops chain late aF Cl i o :=
  .inl ⟨hni, [], rfl, fun x => ⟨v x, hv x, by rw [if_pos (hw x)]; exact fun k w _ _ => h x k w⟩⟩
/-- quiet ahead of number m of the chain, which waits for it -/
theorem opOk2_ahead {i : Nat} {o : Oper} (m : Nat) (v : X → Value) (hv : ∀ x d, o.dst = some d → d < (aF x).tmps.size → (aF x).tmps[d]? = some (v x)) (hw : ∀ x, Region.wanted o (yielded ops (aF x).tmps) = true) (hni : i ∉ chain)
    (hL : lateB md ops i (lateOf md ops i) = true) (hm : (match chain[m]? with | some c => (lateOf md ops i).contains c | none => false) = true)
    (h : ∀ x k w, k ≤ m → Cl x k w → stageUpon P (Cl x k) (v x) ((execOp (aF x).eval o).run P w)) : OpOk2 P md ops chain late aF Cl i o :=
  .inl ⟨hni, lateOf md ops i, hL, fun x => ⟨v x, hv x, by
    rw [if_pos (hw x)]
    intro k w hk _
    refine h x k w ?_
    cases hc : chain[m]? with
    | none => rw [hc] at hm; cases hm
    | some c =>
      rw [hc] at hm
      exact hk m c hc (by simpa using hm)⟩⟩
/-- quiet behind number m of the chain, for which it waits -/
theorem opOk2_behind {i : Nat} {o : Oper} (m : Nat) (v : X → Value) (hv : ∀ x d, o.dst = some d → d < (aF x).tmps.size → (aF x).tmps[d]? = some (v x)) (hw : ∀ x, Region.wanted o (yielded ops (aF x).tmps) = true) (hni : i ∉ chain)
    (hm : (match chain[m]? with | some c => o.after.any fun e => Region.binds md e && e.on == c | none => false) = true)
    (h : ∀ x k w, m < k → Cl x k w → stageUpon P (Cl x k) (v x) ((execOp (aF x).eval o).run P w)) : OpOk2 P md ops chain late aF Cl i o :=
  .inl ⟨hni, [], rfl, fun x => ⟨v x, hv x, by
    rw [if_pos (hw x)]
    intro k w _ hk
    refine h x k w ?_
    cases hc : chain[m]? with
    | none => rw [hc] at hm; cases hm
    | some c =>
      rw [hc] at hm
      exact hk m c hc hm⟩⟩
theorem opOk2_chain {i : Nat} {o : Oper} (n : Nat) (hg : o.guard = none) (hn : chain[n]? = some i) (hnd : chain.Nodup)
    (h : ∀ x w, Cl x n w → upon2 P (fun u w' => ∃ x', Agree ops (late n) (aF x) (aF x') ∧ (∀ d, o.dst = some d → d < (aF x').tmps.size → (aF x').tmps[d]? = some u) ∧ Cl x' (n + 1) w') ((execOp (aF x).eval o).run P w)) : OpOk2 P md ops chain late aF Cl i o :=
  .inr ⟨hg, List.mem_of_getElem? hn, fun k hk => by
    have : k = n := (List.getElem?_inj (List.getElem?_eq_some_iff.1 hk).1 hnd).1 (hk.trans hn.symm)
    subst this
    exact h⟩
end
end Go.Proofs.Ytpbmeeogledmdae
namespace Go.Proofs.Ytpbmeeogledmdae
open Go.RowKit
section
variable {P : Program} {ops : Array Oper} {md : Region.Mode} {X : Type} {aF : X → Act} {Cl : X → (Nat → Bool) → World → Prop}

def upd (d : Nat → Bool) (i : Nat) : Nat → Bool := fun j => Nat.beq j i || d j
def OpOk3 (P : Program) (md : Region.Mode) (ops : Array Oper) (aF : X → Act) (Cl : X → (Nat → Bool) → World → Prop) (i : Nat) (o : Oper) : Prop :=
  ∀ x d w, (∀ r, waits md ops i r = true → d r = true) → (∀ c, (lateOf md ops i).contains c = true → d c = false) → Cl x d w →
    if Region.wanted o (yielded ops (aF x).tmps) = true then
      upon2 P (fun u w' => ∃ x', Agree ops (lateOf md ops i) (aF x) (aF x') ∧ (∀ t, o.dst = some t → t < (aF x').tmps.size → (aF x').tmps[t]? = some u) ∧ Cl x' (upd d i) w') ((execOp (aF x).eval o).run P w)
    else (∀ t, o.dst = some t → t < (aF x).tmps.size → (aF x).tmps[t]? = some undef) ∧ Cl x (upd d i) w
abbrev doneOf (listed : Array Bool) : Nat → Bool := fun j => listed.getD j false
theorem done_set {listed : Array Bool} {i : Nat} (hi : i < listed.size) : doneOf (listed.setIfInBounds i true) = upd (doneOf listed) i := by
  funext j
  unfold doneOf upd
  by_cases h : i = j
  · subst h; simp [hi]
  · rw [getD_set_ne false h]
    have : Nat.beq j i = false := by
      cases hb : Nat.beq j i with
      | false => rfl
      | true => exact absurd (Nat.eq_of_beq_eq_true hb).symm h
    rw [this, Bool.false_or]
def stTrue : Nat → World → Prop := fun _ _ => True
theorem Sr.step {Q : Exit → Act → World → Prop} (hB : stageB md ops [] = true) {listed : Array Bool} {a : Act} {w : World} {x : X} (hd : ∀ x y, (aF x).defers = (aF y).defers) (hz : ∀ x y, (aF x).tmps.size = (aF y).tmps.size)
    (hL : ∀ i, i < ops.size → lateB md ops i (lateOf md ops i) = true) (h : St ops [] (aF x) stTrue listed a w) (hC : Cl x (doneOf listed) w) (hD : Down md ops listed) {i : Nat} (hr : i ∈ Region.ready md ops listed)
    (hops : ∀ i o, ops[i]? = some o → OpOk3 P md ops aF Cl i o) (hsel : ∀ (j : Nat) (o : Oper) cs b, ops[j]? = some o → o.op ≠ .select cs b) (K : Act → World → Prop)
    (hK : ∀ x' a' w', St ops [] (aF x') stTrue (listed.setIfInBounds i true) a' w' → Cl x' (doneOf (listed.setIfInBounds i true)) w' → Down md ops (listed.setIfInBounds i true) → K a' w') : wpOp P ops Q i K a w := by
  obtain ⟨hun, o, ho, hall⟩ := mem_ready.1 hr
  have hio := (Array.getElem?_eq_some_iff.1 ho).1
  have hil : i < listed.size := by rw [h.lsize]; exact hio
  have hunf : listed.getD i false = false := by rw [getD_two hil false true]; exact hun
  have hD' : Down md ops (listed.setIfInBounds i true) := by
    intro j oj hoj hlj e he hb
    by_cases hei : i = e.on
    · rw [← hei]; simp [hil]
    · rw [getD_set_ne false hei]
      by_cases hij : i = j
      · subst hij
        rw [ho] at hoj
        cases hoj
        exact hall e he hb
      · rw [getD_set_ne false hij] at hlj
        exact hD j oj hoj hlj e he hb
  have hag := h.reads hB ho hall
  have hlate := late_none hB (hL i hio) hD hunf
  have hput : ∀ u x' w', Agree ops (lateOf md ops i) (aF x) (aF x') → (∀ t, o.dst = some t → t < (aF x').tmps.size → (aF x').tmps[t]? = some u) → St ops [] (aF x') stTrue (listed.setIfInBounds i true) (a.put o.dst u) w' := by
    intro u x' w' hagr hv
    have h' : St ops [] (aF x') stTrue listed a w := by
      refine ⟨h.defers.trans (hd x x'), h.size.trans (hz x x'), fun t ht => ?_, h.lsize, 0, Nat.zero_le _, fun n c hc => by simp at hc, trivial⟩
      rw [h.val t ht]
      refine hagr t fun c hc e => ?_
      have h1 := ht c e
      rw [hlate c hc] at h1
      cases h1
    exact h'.put ho hv ⟨0, Nat.zero_le _, fun n c hc => by simp at hc, trivial⟩
  have hop := hops i o ho x (doneOf listed) w (fun r hw => by
    obtain ⟨o', ho', e, he, hb, hon⟩ := waits_spec hw
    rw [ho] at ho'
    cases ho'
    rw [← hon]
    exact hall e he hb) (fun c hc => hlate c (by simpa using hc)) hC
  unfold wpOp
  simp only [ho]
  rw [wanted_agree hag]
  by_cases hw : Region.wanted o (yielded ops (aF x).tmps) = true
  · rw [if_pos hw] at hop ⊢
    left
    unfold Oper.wp
    rw [execOp_congr o (fun cs b => hsel i o cs b ho) (eval_agree hag)]
    generalize (execOp (aF x).eval o).run P w = r at hop
    cases r with
    | ok n w' =>
      cases n <;> simp only [upon2] at hop <;> simp only [Oper.upon]
      case value u =>
        obtain ⟨x', h1, h2, h3⟩ := hop
        exact hK x' _ _ (hput _ x' _ h1 h2) (by rw [done_set hil]; exact h3) hD'
      case skip =>
        obtain ⟨x', h1, h2, h3⟩ := hop
        exact hK x' _ _ (hput _ x' _ h1 h2) (by rw [done_set hil]; exact h3) hD'
      case enter f args =>
        refine hop.mono fun e w'' hh => ?_
        obtain ⟨v, rfl, x', h1, h2, h3⟩ := hh
        exact hK x' _ _ (hput _ x' _ h1 h2) (by rw [done_set hil]; exact h3) hD'
    | halt x w' => simp only [upon2] at hop
  · rw [if_neg hw] at hop ⊢
    exact hK x _ _ (hput _ x w (fun _ _ => rfl) hop.1) (by rw [done_set hil]; exact hop.2) hD'
theorem wpAny_of_rove {Q : Exit → Act → World → Prop} (hB : stageB md ops [] = true) (hsel : ∀ (j : Nat) (o : Oper) cs b, ops[j]? = some o → o.op ≠ .select cs b) (hd : ∀ x y, (aF x).defers = (aF y).defers) (hz : ∀ x y, (aF x).tmps.size = (aF y).tmps.size)
    (hL : ∀ i, i < ops.size → lateB md ops i (lateOf md ops i) = true)
    (hops : ∀ i o, ops[i]? = some o → OpOk3 P md ops aF Cl i o) (hQ : ∀ x d w, (∀ j, j < ops.size → d j = true) → Cl x d w → Q .normal (aF x) w) : ∀ (fuel : Nat) (listed : Array Bool) (a : Act) (w : World) (x : X),
    ((List.range ops.size).filter fun j => !listed.getD j true).length = fuel → St ops [] (aF x) stTrue listed a w → Cl x (doneOf listed) w → Down md ops listed → wpAny P md ops Q fuel listed a w := by
  have hdone : ∀ (listed : Array Bool) (a : Act) (w : World) (x : X), (∀ j, j < ops.size → listed.getD j true = true) → St ops [] (aF x) stTrue listed a w → Cl x (doneOf listed) w → Q .normal a w := by
    intro listed a w x hall h hC
    have e : a = aF x := by
      have hd := h.defers
      have ht : a.tmps = (aF x).tmps := by
        apply Array.ext_getElem?
        intro t
        refine h.val t fun j hj => ?_
        have hjl : j < ops.size := by
          unfold dstOf at hj
          cases hx : ops[j]? with
          | none => rw [hx] at hj; cases hj
          | some x => exact (Array.getElem?_eq_some_iff.1 hx).1
        rw [getD_two (by rw [h.lsize]; exact hjl) false true]
        exact hall j hjl
      generalize aF x = af at hd ht
      cases a; cases af
      simp only at hd ht
      subst hd ht
      rfl
    rw [e]
    exact hQ x _ w (fun j hj => by
      show listed.getD j false = true
      rw [getD_two (by rw [h.lsize]; exact hj) false true]
      exact hall j hj) hC
  have hready : ∀ (listed : Array Bool), listed.size = ops.size → Region.ready md ops listed = [] → ∀ j, j < ops.size → listed.getD j true = true := by
    intro listed hsz hnil
    have key : ∀ k, k ≤ ops.size → ∀ j, j < k → listed.getD j false = true := by
      intro k
      induction k with
      | zero => intro _ j hj; omega
      | succ k ih =>
        intro hk j hj
        by_cases hjk : j = k
        · subst hjk
          by_cases hl : listed.getD j false = true
          · exact hl
          · exfalso
            have hjs : j < ops.size := by omega
            have hj4 := (stageB_at hB (Array.getElem?_eq_getElem hjs)).2
            have : j ∈ Region.ready md ops listed := mem_ready.2 ⟨by rw [getD_two (by omega) true false]; simpa using hl, ops[j], Array.getElem?_eq_getElem hjs, fun e he hb => ih (by omega) _ (hj4 e he hb)⟩
            rw [hnil] at this; cases this
        · exact ih (by omega) j (by omega)
    intro j hj
    rw [getD_two (by omega) true false]
    exact key ops.size (Nat.le_refl _) j hj
  intro fuel
  induction fuel with
  | zero =>
    intro listed a w x hc h hC _
    have hall : ∀ j, j < ops.size → listed.getD j true = true := by
      intro j hj
      have := List.length_eq_zero_iff.1 hc
      have h1 := List.filter_eq_nil_iff.1 this j (List.mem_range.2 hj)
      simpa using h1
    refine ⟨?_, hdone listed a w x hall h hC⟩
    cases hr : Region.ready md ops listed with
    | nil => rfl
    | cons i r =>
      have hi : i ∈ Region.ready md ops listed := by rw [hr]; exact List.mem_cons_self
      obtain ⟨hun, o, ho, _⟩ := mem_ready.1 hi
      rw [hall i (Array.getElem?_eq_some_iff.1 ho).1] at hun
      cases hun
  | succ fuel ih =>
    intro listed a w x hc h hC hD
    refine ⟨fun hnil => hdone listed a w x (hready listed h.lsize hnil) h hC, fun i hi => ?_⟩
    refine Sr.step hB hd hz hL h hC hD hi hops hsel _ fun x' a' w' h' hC' hD' => ih _ a' w' x' ?_ h' hC' hD'
    obtain ⟨hun, o, ho, _⟩ := mem_ready.1 hi
    have him : i < ops.size := (Array.getElem?_eq_some_iff.1 ho).1
    have hlt : i < listed.size := by rw [h.lsize]; exact him
    have e1 : (List.range ops.size).filter (fun j => !(listed.setIfInBounds i true).getD j true) = ((List.range ops.size).filter fun j => !listed.getD j true).filter (· != i) := by
      rw [List.filter_filter]
      apply List.filter_congr
      intro j _
      by_cases hji : i = j
      · subst hji; simp [hlt]
      · rw [getD_set_ne true hji]
        have : (j != i) = true := by simpa using Ne.symm hji
        rw [this]; simp
    have hnd : ((List.range ops.size).filter fun j => !listed.getD j true).Nodup := List.nodup_range.filter _
    have hmem : i ∈ (List.range ops.size).filter fun j => !listed.getD j true := List.mem_filter.2 ⟨List.mem_range.2 him, by rw [hun]; rfl⟩
    rw [e1, ← hnd.erase_eq_filter, List.length_erase_of_mem hmem, hc]
    rfl
def OpsOk3 (P : Program) (md : Region.Mode) (ops : Array Oper) (aF : X → Act) (Cl : X → (Nat → Bool) → World → Prop) : Nat → List Oper → Prop
  | _, [] => True
  | k, o :: r => OpOk3 P md ops aF Cl k o ∧ OpsOk3 P md ops aF Cl (k + 1) r
theorem OpsOk3.at_ {l : List Oper} : ∀ {k : Nat}, OpsOk3 P md ops aF Cl k l → ∀ i o, l[i]? = some o → OpOk3 P md ops aF Cl (k + i) o := by
  induction l with
  | nil => intro k _ i o h; simp at h
  | cons x r ih =>
    intro k h i o hi
    cases i with
    | zero => simp only [List.getElem?_cons_zero, Option.some.injEq] at hi; subst hi; exact h.1
    | succ i =>
      simp only [List.getElem?_cons_succ] at hi
      have := ih h.2 i o hi
      rw [show k + (i + 1) = k + 1 + i by omega]
      exact this
/-- A REGION THAT DRAWS ITS ORDER: the class of worlds is given for each set of operations done; what becomes known on the way is x; puts x: the slots, if it went so. -/
theorem wp_region_rove {id : Nat} {Q : Exit → Act → World → Prop} {a : Act} {w : World} {l : List Oper} (x0 : X) (puts : X → List (Tmp × Value)) (Cl : X → (Nat → Bool) → World → Prop) (hm : P.follows .mixedOrders = true)
    (hB : stageB .any l.toArray [] = true) (hs : Region.noSelect l.toArray = true)
    (hL : ((List.range l.length).all fun k => lateB .any l.toArray k (lateOf .any l.toArray k)) = true)
    (hp : ∀ x, ((puts x).all fun x => (List.range l.length).any fun j => dstOf l.toArray j == some x.1) = true)
    (h0 : Cl x0 (fun _ => false) w.drew) (hops : ∀ aF, aF = (fun x => putAll (puts x) a) → OpsOk3 P .any l.toArray aF Cl 0 l) (hQ : ∀ x d w, (∀ j, j < l.length → d j = true) → Cl x d w → Q .normal (putAll (puts x) a) w) : (Code.region id l.toArray true).wp P Q a w := by
  have hrep : ∀ j, (Array.replicate l.toArray.size false).getD j false = false := fun j => by
    simp only [Array.getD_eq_getD_getElem?, Array.getElem?_replicate]
    split <;> rfl
  refine wp_region_any hm ?_
  refine wpAny_of_rove (aF := fun x => putAll (puts x) a) (Cl := Cl) hB (Region.noSelect_spec hs) (fun x y => ((putAll_defers (puts x) a).trans (putAll_defers (puts y) a).symm)) (fun x y => ((putAll_size (puts x) a).trans (putAll_size (puts y) a).symm))
    (fun i hi => ?_) (fun i o ho => ?_) (by simpa using hQ) l.toArray.size (Array.replicate l.toArray.size false) a _ x0 ?_ ?_ ?_ (fun i o _ hl => by rw [hrep] at hl; cases hl)
  · exact List.all_eq_true.1 hL i (List.mem_range.2 (by simpa using hi))
  · have := (hops _ rfl).at_ i o (by simpa using ho)
    rwa [Nat.zero_add] at this
  · rw [List.filter_eq_self.2 (fun j hj => by have hj' : j < l.length := by simpa using hj
                                              simp [hj'])]
    simp
  · refine ⟨(putAll_defers (puts x0) a).symm, (putAll_size (puts x0) a).symm, fun t ht => ?_, by simp, 0, Nat.zero_le _, fun n c hc => by simp at hc, trivial⟩
    refine (putAll_other (puts x0) t (fun y hy e => ?_) a).symm
    have := List.all_eq_true.1 (hp x0) y hy
    rw [List.any_eq_true] at this
    obtain ⟨j, _, hj⟩ := this
    rw [beq_iff_eq] at hj
    have := ht j (e ▸ hj)
    rw [hrep] at this
    cases this
  · rw [show doneOf (Array.replicate l.toArray.size false) = fun _ => false from funext hrep]
    exact h0
theorem opOk3_quiet {i : Nat} {o : Oper} (v : X → Value) (hv : ∀ x t, o.dst = some t → t < (aF x).tmps.size → (aF x).tmps[t]? = some (v x)) (hw : ∀ x, Region.wanted o (yielded ops (aF x).tmps) = true)
    (h : ∀ x d w, (∀ r, waits md ops i r = true → d r = true) → Cl x d w → stageUpon P (Cl x (upd d i)) (v x) ((execOp (aF x).eval o).run P w)) : OpOk3 P md ops aF Cl i o := fun x d w hd _ hC => by
  rw [if_pos (hw x)]
  have hup := h x d w hd hC
  generalize (execOp (aF x).eval o).run P w = r at hup
  cases r with
  | ok n w' =>
    cases n <;> simp only [stageUpon] at hup <;> simp only [upon2]
    case value u => exact ⟨x, agree_same _ _, by rw [hup.1]; exact hv x, hup.2⟩
    case skip => exact ⟨x, agree_same _ _, by rw [← hup.1]; exact hv x, hup.2⟩
    case enter f args =>
      refine hup.mono fun e w'' hh => ?_
      exact ⟨_, hh.1, x, agree_same _ _, hv x, hh.2⟩
  | halt x w' => simp only [stageUpon] at hup
theorem opOk3_loud {i : Nat} {o : Oper} (hg : o.guard = none)
    (h : ∀ x d w, (∀ r, waits md ops i r = true → d r = true) → (∀ c, (lateOf md ops i).contains c = true → d c = false) → Cl x d w →
      upon2 P (fun u w' => ∃ x', Agree ops (lateOf md ops i) (aF x) (aF x') ∧ (∀ t, o.dst = some t → t < (aF x').tmps.size → (aF x').tmps[t]? = some u) ∧ Cl x' (upd d i) w') ((execOp (aF x).eval o).run P w)) : OpOk3 P md ops aF Cl i o := fun x d w hd hn hC => by
  rw [if_pos (by unfold Region.wanted; rw [hg])]
  exact h x d w hd hn hC
end
end Go.Proofs.Ytpbmeeogledmdae
namespace Go.Proofs.Ytpbmeeogledmdae
open Go.RowKit

section
variable {P : Program} {l₀ n : Nat} {ops : Array Oper} {md : Region.Mode}
theorem rowsR {row : String} {args : Array Value} {w : World} {R : Value → World → Prop} (h : Rows P row args w R) : RowsIn (Fence.wide.inRound l₀) n P row args w R :=
  fun c cs _ => let ⟨v, w', r, s⟩ := h c cs; ⟨v, w', r, stepsIn_wide.2 s⟩
theorem op_round {o : Oper} {a : Act} {w : World} {K K' : Act → World → Prop} {T : Act → World → Prop} (hnd : ∀ c, o.op ≠ .defer c) (hK : ∀ a w, K a w → K' a w)
    (h : o.wp P a w K (fun e a w => match e with | .normal => T a w | _ => False)) : o.wpIn (Fence.wide.inRound l₀) n P a w K' (fun e a w => match e with | .normal => T a w | _ => False) := by
  refine ⟨fun _ _ => trivial, ?_⟩
  rw [Oper.semAt_eq _ _ _ hnd]
  unfold Oper.wp at h
  generalize (execOp a.eval o).run P w = r at h
  cases r with
  | ok x w' =>
    cases x <;> try exact h.elim
    case value v => exact hK _ _ h
    case skip => exact hK _ _ h
    case defer d => exact hK _ _ h
    case enter f args =>
      refine ⟨(fun hx => by cases hx), CallsIn.inRound l₀ (callsIn_wide.2 (Calls.mono h ?_))⟩
      rintro e w'' he
      cases e with
      | returned v => exact hK _ _ he
      | panicked chain => exact he.elim
      | outgrown => obtain ⟨_, _, hx⟩ := he; exact hx.elim
    case row rw args => exact ⟨(fun hx => by cases hx), RowsIn.mono (rowsR h) fun v w'' he => hK _ _ he⟩
  | halt x w' =>
    cases x <;> first | exact h.elim | exact h
theorem any_round {T : Act → World → Prop} (hnd : ∀ (j : Nat) (o : Oper), ops[j]? = some o → ∀ c, o.op ≠ .defer c) : ∀ (fuel : Nat) (listed : Array Bool) (a : Act) (w : World),
    wpAny P md ops (fun e a w => match e with | .normal => T a w | _ => False) fuel listed a w → wpAnyIn (Fence.wide.inRound l₀) n P md ops (fun e a w => match e with | .normal => T a w | _ => False) fuel listed a w
  | 0, _, _, _, h => h
  | fuel + 1, listed, a, w, h => ⟨h.1, fun i hi => by
      have hh := h.2 i hi
      unfold wpOp at hh
      unfold wpOpIn
      cases ho : ops[i]? with
      | none =>
        rw [ho] at hh
        exact any_round hnd fuel _ _ _ hh
      | some o =>
        rw [ho] at hh
        simp only at hh ⊢
        split at hh
        · rename_i hw
          rw [if_pos hw]
          rcases hh with hh | ⟨_, _, _, hx⟩
          · exact op_round (hnd i o ho) (fun a w => any_round hnd fuel _ a w) hh
          · exact hx.elim
        · rename_i hw
          rw [if_neg hw]
          exact ⟨fun _ _ => trivial, any_round hnd fuel _ _ _ hh⟩⟩
end
def noDefer (l : List Oper) : Bool := l.all fun o => match o.op with | .defer _ => false | _ => true
theorem noDefer_at {l : List Oper} (h : noDefer l = true) (j : Nat) (o : Oper) (hj : l.toArray[j]? = some o) : ∀ c, o.op ≠ .defer c := by
  intro c e
  have hm : o ∈ l := List.mem_of_getElem? (by simpa using hj)
  have := List.all_eq_true.1 h o hm
  rw [e] at this
  cases this
section
variable {P : Program} {X : Type}
theorem wpIn_region_tell {id n l₀ : Nat} {Q : Exit → Act → World → Prop} {a : Act} {w : World} {l : List Oper} (x0 : X) (chain : List Nat) (puts : X → List (Tmp × Value)) (Cl : X → Nat → World → Prop) (hm : P.follows .mixedOrders = true)
    (hB : stageB .any l.toArray chain = true) (hs : Region.noSelect l.toArray = true) (hnd : noDefer l = true) (hin : (chain.all fun c => decide (c < l.length)) = true)
    (hL : ((List.range chain.length).all fun k => lateB .any l.toArray (chain.getD k 0) (lateOf .any l.toArray (chain.getD k 0))) = true)
    (hp : ∀ x, ((puts x).all fun x => (List.range l.length).any fun j => dstOf l.toArray j == some x.1) = true)
    (h0 : Cl x0 0 w.drew) (hops : ∀ aF, aF = (fun x => putAll (puts x) a) → OpsOk2 P .any l.toArray chain (fun k => lateOf .any l.toArray (chain.getD k 0)) aF Cl 0 l) (hQ : ∀ x w, Cl x chain.length w → Q .normal (putAll (puts x) a) w) : (Code.region id l.toArray true).wpIn (Fence.wide.inRound l₀) n P Q a w := by
  have hrep : ∀ j, (Array.replicate l.toArray.size false).getD j false = false := fun j => by
    simp only [Array.getD_eq_getD_getElem?, Array.getElem?_replicate]
    split <;> rfl
  refine wpIn_mono (Q := fun e a w => match e with | .normal => Q .normal a w | _ => False) ?_ (fun e a w h => by cases e <;> first | exact h | exact h.elim)
  refine wpIn_region_any hm ?_
  refine any_round (T := fun a w => Q .normal a w) (noDefer_at hnd) _ _ _ _ ?_
  refine wpAny_of_tell (Q := fun e a w => match e with | .normal => Q .normal a w | _ => False) (chain := chain) (aF := fun x => putAll (puts x) a) (Cl := Cl) (late := fun k => lateOf .any l.toArray (chain.getD k 0)) hB (Region.noSelect_spec hs) (fun x y => ((putAll_defers (puts x) a).trans (putAll_defers (puts y) a).symm)) (fun x y => ((putAll_size (puts x) a).trans (putAll_size (puts y) a).symm))
    (fun k r hk => ?_) (fun i o ho => ?_) (fun c hc => ?_) hQ l.toArray.size (Array.replicate l.toArray.size false) a _ x0 ?_ ?_ (fun i o _ hl => by rw [hrep] at hl; cases hl)
  · have hkl := (List.getElem?_eq_some_iff.1 hk).1
    have := List.all_eq_true.1 hL k (List.mem_range.2 hkl)
    rw [List.getD_eq_getElem?_getD, hk] at this
    show lateB .any l.toArray r (lateOf .any l.toArray (chain.getD k 0)) = true
    rw [List.getD_eq_getElem?_getD, hk]
    exact this
  · have := (hops _ rfl).at_ i o (by simpa using ho)
    rwa [Nat.zero_add] at this
  · have := List.all_eq_true.1 hin c hc
    simpa using this
  · rw [List.filter_eq_self.2 (fun j hj => by have hj' : j < l.length := by simpa using hj
                                              simp [hj'])]
    simp
  · refine ⟨(putAll_defers (puts x0) a).symm, (putAll_size (puts x0) a).symm, fun t ht => ?_, by simp, 0, Nat.zero_le _, fun n c _ => ?_, h0⟩
    · refine (putAll_other (puts x0) t (fun y hy e => ?_) a).symm
      have := List.all_eq_true.1 (hp x0) y hy
      rw [List.any_eq_true] at this
      obtain ⟨j, _, hj⟩ := this
      rw [beq_iff_eq] at hj
      have := ht j (e ▸ hj)
      rw [hrep] at this
      cases this
    · rw [hrep]
      simp
end
end Go.Proofs.Ytpbmeeogledmdae
