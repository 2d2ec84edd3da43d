/-
  A region that draws its order: a quiet beginning, and behind it, in its own order, what is not quiet ('f([]T{g(x), h(y)}...)'). Of no program.
-/
import Derived.Test.YtcipdimnbleljaaQuiet
import Derived.BigQuiet
namespace Go.Proofs.Ytcipdimnbleljaa
open Go.RowKit
open Go

section
variable {P : Program} {ops : Array Oper} {C : World → Prop} {md : Region.Mode} {m : Nat}

/-- does operation q wait for p? -/
def waits (md : Region.Mode) (ops : Array Oper) (q p : Nat) : Bool := ((ops[q]?).map fun o => o.after.any fun e => Region.binds md e && e.on == p).getD false
/-- what the text of the region must say -/
def thenB (md : Region.Mode) (ops : Array Oper) (m : Nat) : Bool :=
  decide (m < ops.size) && (List.range m).all (fun p => (List.range (m + 1)).any fun q => decide (p < q) && waits md ops q p) &&
  (List.range ops.size).all (fun j => !decide (m < j) || (List.range j).any fun q => decide (m ≤ q) && waits md ops j q) &&
  (List.range m).all (fun i => ((ops[i]?).map fun o => o.after.all fun e => !Region.binds md e || decide (e.on < i)).getD true)

structure Inv (md : Region.Mode) (ops : Array Oper) (m : Nat) (fuel : Nat) (listed : Array Bool) : Prop where
  size : listed.size = ops.size
  tail : ∀ j, m ≤ j → j < ops.size → listed.getD j true = false
  count : ((List.range m).filter fun j => !listed.getD j true).length = fuel
  closed : ∀ i o, listed.getD i false = true → ops[i]? = some o → ∀ e ∈ o.after, Region.binds md e = true → listed.getD e.on false = true

theorem waits_spec {q p : Nat} (h : waits md ops q p = true) : ∃ o, ops[q]? = some o ∧ ∃ e ∈ o.after, Region.binds md e = true ∧ e.on = p := by
  unfold waits at h
  cases ho : ops[q]? with
  | none => rw [ho] at h; simp at h
  | some o =>
    rw [ho] at h
    simp only [Option.map_some, Option.getD_some, Array.any_eq_true, Bool.and_eq_true, beq_iff_eq] at h
    obtain ⟨i, hi, hb, he⟩ := h
    exact ⟨o, rfl, _, Array.getElem_mem hi, hb, he⟩

/-- operation m may come up only behind all that stand ahead of it -/
theorem Inv.all_of_m {fuel : Nat} {listed : Array Bool} (hB : thenB md ops m = true) (hI : Inv md ops m fuel listed) (h : m ∈ Region.ready md ops listed) : ∀ p, p < m → listed.getD p false = true := by
  simp only [thenB, Bool.and_eq_true, decide_eq_true_eq, List.all_eq_true, List.mem_range, List.any_eq_true] at hB
  obtain ⟨⟨⟨h1, h2⟩, h3⟩, h4⟩ := hB
  obtain ⟨hm, om, hom, hall⟩ := mem_ready.1 h
  have key : ∀ d p, p < m → m - p ≤ d → listed.getD p false = true := by
    intro d
    induction d with
    | zero => intro p hp hd; omega
    | succ d ih =>
      intro p hp hd
      obtain ⟨q, hq, hpq, hw⟩ := h2 p hp
      obtain ⟨o, ho, e, he, hb, rfl⟩ := waits_spec hw
      by_cases hqm : q = m
      · subst hqm
        rw [hom] at ho; cases ho
        exact hall e he hb
      · exact hI.closed q o (ih q (by omega) (by omega)) ho e he hb
  exact fun p hp => key (m - p) p hp (Nat.le_refl _)

theorem getD_both {l : Array Bool} {j : Nat} (h : j < l.size) (d d' : Bool) : l.getD j d = l.getD j d' := by simp [h]

theorem Inv.lt {fuel : Nat} {listed : Array Bool} (hB : thenB md ops m = true) (hI : Inv md ops m (fuel + 1) listed) {i : Nat} (h : i ∈ Region.ready md ops listed) : i < m := by
  rcases Nat.lt_trichotomy i m with hi | hi | hi
  · exact hi
  · subst hi
    have hall := hI.all_of_m hB h
    have hc := hI.count
    rw [List.length_eq_zero_iff.2 (List.filter_eq_nil_iff.2 (fun j hj => by
      have hj' := List.mem_range.1 hj
      have hB' := hB
      simp only [thenB, Bool.and_eq_true, decide_eq_true_eq] at hB'
      have hsz := hI.size
      rw [getD_both (by omega) true false, hall j hj']; simp))] at hc
    omega
  · have hB' := hB
    simp only [thenB, Bool.and_eq_true, decide_eq_true_eq, List.all_eq_true, List.mem_range, List.any_eq_true, Bool.or_eq_true, Bool.not_eq_true', decide_eq_false_iff_not] at hB'
    obtain ⟨⟨⟨h1, h2⟩, h3⟩, h4⟩ := hB'
    obtain ⟨hm, om, hom, hall⟩ := mem_ready.1 h
    have hlt : i < ops.size := by
      rcases Nat.lt_or_ge i ops.size with g | g
      · exact g
      · rw [Array.getElem?_eq_none g] at hom; cases hom
    rcases h3 i hlt with g | ⟨q, hq, hmq, hw⟩
    · exact absurd hi g
    · obtain ⟨o, ho, e, he, hb, rfl⟩ := waits_spec hw
      rw [hom] at ho; cases ho
      have ht := hI.tail e.on hmq (by omega)
      have hl := hall e he hb
      rw [getD_both (by rw [hI.size]; omega) true false, hl] at ht
      cases ht

theorem Inv.step {fuel : Nat} {listed : Array Bool} (hB : thenB md ops m = true) (hI : Inv md ops m (fuel + 1) listed) {i : Nat} (h : i ∈ Region.ready md ops listed) : Inv md ops m fuel (listed.setIfInBounds i true) := by
  have him := hI.lt hB h
  obtain ⟨hun, o, ho, hall⟩ := mem_ready.1 h
  refine ⟨by simp [hI.size], fun j hj hjs => ?_, ?_, fun k ok hk hok e he hb => ?_⟩
  · rw [getD_set_ne true (by omega)]; exact hI.tail j hj hjs
  · have hc := hI.count
    have hlt : i < listed.size := by
      rcases Nat.lt_or_ge i listed.size with g | g
      · exact g
      · simp [Array.getElem?_eq_none g] at hun
    have e1 : (List.range m).filter (fun j => !(listed.setIfInBounds i true).getD j true) = ((List.range m).filter fun j => !listed.getD j true).filter (· != i) := by
      rw [List.filter_filter]
      apply List.filter_congr
      intro j _
      by_cases hji : i = j
      · subst hji; simp [hlt]
      · rw [getD_set_ne true hji]
        have : (j != i) = true := by simpa using Ne.symm hji
        rw [this]; simp
    have hnd : ((List.range m).filter fun j => !listed.getD j true).Nodup := List.nodup_range.filter _
    have hmem : i ∈ (List.range m).filter fun j => !listed.getD j true := List.mem_filter.2 ⟨List.mem_range.2 him, by rw [hun]; rfl⟩
    rw [e1, ← hnd.erase_eq_filter, List.length_erase_of_mem hmem, hc]
    rfl
  · by_cases hki : k = i
    · subst hki
      rw [ho] at hok; cases hok
      exact getD_set_true (hall e he hb)
    · rw [getD_set_ne false (Ne.symm hki)] at hk
      exact getD_set_true (hI.closed k ok hk hok e he hb)

theorem Inv.some_ready {fuel : Nat} {listed : Array Bool} (hB : thenB md ops m = true) (hI : Inv md ops m (fuel + 1) listed) : Region.ready md ops listed ≠ [] := by
  intro hnil
  have hB' := hB
  simp only [thenB, Bool.and_eq_true, decide_eq_true_eq, List.all_eq_true, List.mem_range] at hB'
  obtain ⟨⟨⟨h1, h2⟩, h3⟩, h4⟩ := hB'
  have hsz := hI.size
  have key : ∀ k, k ≤ m → ∀ j, j < k → listed.getD j false = true := by
    intro k
    induction k with
    | zero => intro _ j hj; omega
    | succ k ih =>
      intro hk j hj
      by_cases hjk : j = k
      · subst hjk
        by_cases hl : listed.getD j false = true
        · exact hl
        · exfalso
          have hjs : j < ops.size := by omega
          have hj4 := h4 j (by omega)
          rw [Array.getElem?_eq_getElem hjs] at hj4
          simp only [Option.map_some, Option.getD_some, Array.all_eq_true, Bool.or_eq_true, Bool.not_eq_true', decide_eq_true_eq] at hj4
          have : j ∈ Region.ready md ops listed := mem_ready.2 ⟨by rw [getD_both (by omega) true false]; simpa using hl, ops[j], Array.getElem?_eq_getElem hjs, fun e he hb => by
            obtain ⟨i, hi, rfl⟩ := Array.getElem_of_mem he
            rcases hj4 i hi with g | g
            · rw [hb] at g; cases g
            · exact ih (by omega) _ g⟩
          rw [hnil] at this; cases this
      · exact ih (by omega) j (by omega)
  have hc := hI.count
  rw [List.length_eq_zero_iff.2 (List.filter_eq_nil_iff.2 (fun j hj => by
    have hj' := List.mem_range.1 hj
    rw [getD_both (by omega) true false, key m (Nat.le_refl _) j hj']; simp))] at hc
  omega

/-- Whatever order is picked for the quiet beginning. -/
def wpAnyT (P : Program) (md : Region.Mode) (ops : Array Oper) (C : World → Prop) (T : Act → Prop) : Nat → Array Bool → Act → Prop
  | 0, _, a => T a
  | fuel + 1, listed, a => ∀ i ∈ Region.ready md ops listed, qOp P ops C i (wpAnyT P md ops C T fuel (listed.setIfInBounds i true)) a

theorem Inv.full {listed : Array Bool} (hI : Inv md ops m 0 listed) : listed = ((List.range ops.size).map fun j => decide (j < m)).toArray := by
  have hsz := hI.size
  apply Array.ext
  · simp [hsz]
  · intro j h1 h2
    have hjs : j < ops.size := by omega
    have e : ((List.range ops.size).map fun j => decide (j < m)).toArray[j] = decide (j < m) := by simp
    rw [e]
    by_cases hj : j < m
    · have hf := List.filter_eq_nil_iff.1 (List.length_eq_zero_iff.1 hI.count) j (List.mem_range.2 hj)
      have : listed[j] = true := by simpa [h1] using hf
      rw [this, decide_eq_true hj]
    · have := hI.tail j (by omega) hjs
      have : listed[j] = false := by simpa [h1] using this
      rw [this, decide_eq_false hj]

theorem wpAny_of_T {T : Act → Prop} {Q : Exit → Act → World → Prop} {r : Nat} (hB : thenB md ops m = true)
    (hT : ∀ a w, C w → T a → wpAny P md ops Q r ((List.range ops.size).map fun j => decide (j < m)).toArray a w) :
    ∀ (fuel : Nat) (listed : Array Bool) (a : Act) (w : World), Inv md ops m fuel listed → C w → wpAnyT P md ops C T fuel listed a → wpAny P md ops Q (r + fuel) listed a w
  | 0, listed, a, w, hI, hw, h => by
    rw [hI.full]; exact hT a w hw h
  | fuel + 1, listed, a, w, hI, hw, h =>
    ⟨fun h0 => absurd h0 (hI.some_ready hB), fun i hi => wpOp_of_qOp hw (fun a' w' hw' => wpAny_of_T hB hT fuel _ a' w' (hI.step hB hi) hw') (h i hi)⟩

theorem wpAnyT_first {T : Act → Prop} {i : Nat} {oi : Oper} {v : Value} (hB : thenB md ops m = true) (hi : ops[i]? = some oi) (hsel : ∀ (j : Nat) (o : Oper) cs b, ops[j]? = some o → o.op ≠ .select cs b) :
    ∀ (fuel : Nat) (listed : Array Bool) (a : Act), Inv md ops m (fuel + 1) listed →
      (∀ j oj, ops[j]? = some oj → j ≠ i → listed.getD j true = false → (∀ e ∈ oj.after, Region.binds md e = true → e.on ≠ i) → oi.apart ops oj = true) →
      i ∈ Region.ready md ops listed → YieldsIn P ops C oi v a →
      wpAnyT P md ops C T fuel (listed.setIfInBounds i true) (a.put oi.dst v) → wpAnyT P md ops C T (fuel + 1) listed a := by
  intro fuel
  induction fuel with
  | zero =>
    intro listed a hI _ hr hy H j hj
    by_cases hji : j = i
    · subst hji; exact hy.qOp hi H
    · exfalso
      have hjm := hI.lt hB hj
      have hI0 := hI.step hB hr
      have hf := List.filter_eq_nil_iff.1 (List.length_eq_zero_iff.1 hI0.count) j (List.mem_range.2 hjm)
      rw [getD_set_ne true (Ne.symm hji), (mem_ready.1 hj).1] at hf
      exact hf rfl
  | succ fuel ih =>
    intro listed a hI hfree hr hy H j hj
    by_cases hji : j = i
    · subst hji; exact hy.qOp hi H
    · have h1 := H j (ready_mono hj hji)
      obtain ⟨hjun, oj, hoj, hall⟩ := mem_ready.1 hj
      have hnot : ∀ e ∈ oj.after, Region.binds md e = true → e.on ≠ i := fun e he hb heq => by
        have h1 := hall e he hb
        have h0 := (mem_ready.1 hr).1
        rw [heq] at h1
        rcases Nat.lt_or_ge i listed.size with h' | h'
        · simp [h'] at h0 h1; rw [h0] at h1; cases h1
        · simp [Array.getElem?_eq_none h'] at h1
      have h2 := qOp_put hoj (hfree j oj hoj hji hjun hnot) (fun cs b => hsel i oi cs b hi) (fun cs b => hsel j oj cs b hoj) hy h1
      have hfree' : ∀ k ok, ops[k]? = some ok → k ≠ i → (listed.setIfInBounds j true).getD k true = false →
          (∀ e ∈ ok.after, Region.binds md e = true → e.on ≠ i) → oi.apart ops ok = true := fun k ok hk hki hun hno => by
        refine hfree k ok hk hki ?_ hno
        by_cases hjk : j = k
        · subst hjk; exact hjun
        · rw [getD_set_ne true hjk] at hun; exact hun
      refine qOp_mono (fun a' h3 => ih (listed.setIfInBounds j true) a' (hI.step hB hj) hfree' (ready_mono hr (Ne.symm hji)) h3.1 ?_) h2
      rw [Array.setIfInBounds_comm _ _ hji]
      exact h3.2

/-- the lexical walk of the beginning -/
def lexPre (md : Region.Mode) (ops : Array Oper) : Nat → Nat → Array Bool → Bool
  | 0, _, _ => true
  | fuel + 1, k, listed => (Region.ready md ops listed).contains k && Region.free md ops listed k && lexPre md ops fuel (k + 1) (listed.setIfInBounds k true)

theorem wpAnyT_lex {T : Act → Prop} (hB : thenB md ops m = true) (hs : Region.noSelect ops = true) : ∀ (l : List Oper) (k : Nat) (listed : Array Bool) (a : Act), (∀ j, j < l.length → l[j]? = ops[k + j]?) →
    Inv md ops m l.length listed → lexPre md ops l.length k listed = true → wpQuiet P ops C T l a → wpAnyT P md ops C T l.length listed a
  | [], _, _, _, _, _, _, h => h
  | o :: l, k, listed, a, hl, hI, hL, h => by
    have h0 : ops[k]? = some o := by simpa using (hl 0 (by simp)).symm
    simp only [List.length_cons, lexPre, Bool.and_eq_true] at hL
    obtain ⟨⟨hr, hf⟩, hL'⟩ := hL
    have hst : qOp P ops C k (wpQuiet P ops C T l) a := by unfold qOp; simp only [h0]; exact h
    obtain ⟨v, hy, hK⟩ := yieldsIn_of_qOp h0 hst
    have hr' : k ∈ Region.ready md ops listed := by simpa using hr
    exact wpAnyT_first hB h0 (Region.noSelect_spec hs) l.length listed a hI (Region.free_spec h0 hf) hr' hy
      (wpAnyT_lex hB hs l (k + 1) _ _ (fun j hj => by have := hl (j + 1) (by simpa using hj); simpa [Nat.add_assoc, Nat.add_comm 1 j] using this) (hI.step hB hr') hL' hK)

theorem inv_start (hm : m ≤ ops.size) : Inv md ops m m (Array.replicate ops.size false) := by
  refine ⟨by simp, fun j _ hj => by simp [hj], ?_, fun i o hi => ?_⟩
  · rw [List.filter_eq_self.2]
    · simp
    · intro j hj
      have hj' := List.mem_range.1 hj
      have : j < ops.size := by omega
      simp [this]
  · exfalso
    rcases Nat.lt_or_ge i ops.size with g | g
    · simp [g] at hi
    · simp [Nat.not_lt.2 g] at hi

/-- **A REGION WITH A QUIET BEGINNING**: its first m operations are quiet in the class; behind them the rest comes, in whatever order the text leaves. -/
theorem wp_region_then {id : Nat} {Q : Exit → Act → World → Prop} {a : Act} {w : World} {l : List Oper} (m : Nat) (hm : P.follows .mixedOrders = true)
    (hB : (thenB .any l.toArray m && Region.noSelect l.toArray && lexPre .any l.toArray m 0 (Array.replicate l.length false)) = true) (hC : C w.drew)
    (h : wpQuiet P l.toArray C (fun a' => ∀ w', C w' → wpAny P .any l.toArray Q (l.length - m) ((List.range l.length).map fun j => decide (j < m)).toArray a' w') (l.take m) a) : (Code.region id l.toArray true).wp P Q a w := by
  simp only [Bool.and_eq_true] at hB
  obtain ⟨⟨hB1, hB2⟩, hB3⟩ := hB
  have hml : m < l.length := by
    have := hB1
    simp only [thenB, Bool.and_eq_true, decide_eq_true_eq] at this
    simpa using this.1.1.1
  have hlen : (l.take m).length = m := by simp; omega
  refine wp_region_any hm ?_
  have h1 := wpAnyT_lex (C := C) (md := .any) hB1 hB2 (l.take m) 0 (Array.replicate l.length false) a (fun j hj => by
    rw [hlen] at hj
    simp [hj]) (by rw [hlen]; have := inv_start (md := .any) (ops := l.toArray) (m := m) (by simp; omega); simpa using this) (by rw [hlen]; exact hB3) h
  rw [hlen] at h1
  have h2 := wpAny_of_T (Q := Q) (r := l.length - m) hB1 (fun a' w' hw' hT => by simpa using hT w' hw') m _ a w.drew (by have := inv_start (md := .any) (ops := l.toArray) (m := m) (by simp; omega); simpa using this) hC h1
  have e : l.length - m + m = l.toArray.size := by simp; omega
  rw [e] at h2
  simpa using h2
end
end Go.Proofs.Ytcipdimnbleljaa
