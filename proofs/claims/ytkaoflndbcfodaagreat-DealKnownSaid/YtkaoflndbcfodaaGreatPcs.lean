/-
  Layer 28: plans of several carriers, apart from each other, as they lie in a world.
-/
import Derived.Test.YtkaoflndbcfodaaGreatPs
namespace Go.Proofs.YtkaoflndbcfodaaGreat
open Go.RowKit

/-- a carrier's plan: where it lies, its vehicles, its routes, the blocks within which it lies -/
structure Pc where
  b : Nat
  gT : Nat
  gM : Nat
  N : Nat
  fl : List Ve
  rows : List Rou2
  F : Nat → Prop
def pc0 : Pc := ⟨0, 0, 0, 0, [], [], fun _ => False⟩
def PcAt (B : Nat) (w : World) (t : List Rq) (p : Pc) : Prop := PlanAt w p.F p.b p.gT p.gM p.N p.fl p.rows t ∧ PlnOk p.fl p.rows t ∧ ∀ k, p.F k → B ≤ k
theorem PcAt.pst {B : Nat} {w : World} {t : List Rq} {p : Pc} (h : PcAt B w t p) (ht : t.length ≤ 1000) : PSt B w p.b p.gT p.gM p.N p.fl p.rows t := by
  obtain ⟨h1, h2, h3⟩ := h
  obtain ⟨qT, dT, cT, qs, h⟩ := id h1
  exact ⟨⟨p.F, h1⟩, h2, ht, h3 _ h.fT, h3 _ h.fM, h.lt _ h.fT, h.lt _ h.fM⟩
theorem PcAt.own {B : Nat} {w : World} {t : List Rq} {p : Pc} (h : PcAt B w t p) : p.F p.b ∧ p.F p.gT ∧ p.F p.gM ∧ ∀ k, p.F k → k < w.heap.size := by
  obtain ⟨⟨qT, dT, cT, qs, h1⟩, h2, h3⟩ := h
  exact ⟨h1.fb, h1.fT, h1.fM, h1.lt⟩
theorem PcAt.mod {B : Nat} {w w' : World} {t : List Rq} {p : Pc} (h : PcAt B w t p) {S : Nat → Prop} (hm : Mod S w w') (hs : ∀ k, S k → ¬ p.F k) : PcAt B w' t p := ⟨h.1.mod hm hs, h.2⟩
theorem PcAt.below {B : Nat} {w w' : World} {t : List Rq} {p : Pc} (h : PcAt B w t p) (hb : Below w.heap.size w w') : PcAt B w' t p := ⟨h.1.below hb, h.2⟩
/-- all of them, apart from each other -/
structure PcsAt (B : Nat) (w : World) (t : List Rq) (L : List Pc) : Prop where
  tl : t.length ≤ 1000
  at_ : ∀ p ∈ L, PcAt B w t p
  ap : ∀ i j, i < L.length → j < L.length → i ≠ j → ∀ k, (L.getD i pc0).F k → ¬ (L.getD j pc0).F k
section
variable {B : Nat} {w w' : World} {t : List Rq} {L : List Pc}
theorem PcsAt.get (h : PcsAt B w t L) {i : Nat} (hi : i < L.length) : PcAt B w t (L.getD i pc0) := h.at_ _ (by
  rw [List.getD_eq_getElem?_getD, List.getElem?_eq_getElem hi]
  exact List.getElem_mem hi)
theorem PcsAt.below (h : PcsAt B w t L) (hb : Below w.heap.size w w') : PcsAt B w' t L := ⟨h.tl, fun p hp => (h.at_ p hp).below hb, h.ap⟩
theorem PcsAt.mod (h : PcsAt B w t L) {S : Nat → Prop} (hm : Mod S w w') (hs : ∀ p ∈ L, ∀ k, S k → ¬ p.F k) : PcsAt B w' t L := ⟨h.tl, fun p hp => (h.at_ p hp).mod hm (hs p hp), h.ap⟩
/-- one of them turned -/
theorem PcsAt.turn (h : PcsAt B w t L) {i : Nat} (hi : i < L.length) {p : Pc} (hm : Mod (fun k => k = (L.getD i pc0).gT ∨ k = (L.getD i pc0).gM) w w') (hp : PcAt B w' t p) (hF : ∀ k, p.F k → (L.getD i pc0).F k ∨ w.heap.size ≤ k) : PcsAt B w' t (L.set i p) := by
  have ho := (h.get hi).own
  have hset : ∀ j, j < L.length → (L.set i p).getD j pc0 = if i = j then p else L.getD j pc0 := fun j hj => by
    rw [List.getD_eq_getElem?_getD, List.getElem?_set, List.getD_eq_getElem?_getD]
    by_cases e : i = j
    · rw [if_pos e, if_pos e, if_pos hi]
      rfl
    · rw [if_neg e, if_neg e]
  refine ⟨h.tl, fun q hq => ?_, fun a b ha hb hab k hk hk2 => ?_⟩
  · obtain ⟨j, hj, rfl⟩ := List.mem_iff_getElem.1 hq
    rw [List.length_set] at hj
    rw [List.getElem_set]
    by_cases e : i = j
    · rw [if_pos e]
      exact hp
    · rw [if_neg e]
      have hg := h.get hj
      rw [List.getD_eq_getElem?_getD, List.getElem?_eq_getElem hj] at hg
      refine hg.mod hm (fun k hk hF2 => ?_)
      have ha := h.ap i j hi hj e k
      have ej : L.getD j pc0 = L[j] := by rw [List.getD_eq_getElem?_getD, List.getElem?_eq_getElem hj]; rfl
      rw [ej] at ha
      refine ha ?_ hF2
      rcases hk with rfl | rfl
      · exact ho.2.1
      · exact ho.2.2.1
  · rw [List.length_set] at ha hb
    rw [hset a ha] at hk
    rw [hset b hb] at hk2
    by_cases ea : i = a
    · rw [if_pos ea] at hk
      rw [if_neg (fun e => hab (ea.symm.trans e))] at hk2
      rcases hF k hk with h1 | h1
      · subst ea
        exact h.ap i b hi hb hab k h1 hk2
      · have := (h.get hb).own.2.2.2 k hk2
        omega
    · rw [if_neg ea] at hk
      by_cases eb : i = b
      · rw [if_pos eb] at hk2
        rcases hF k hk2 with h1 | h1
        · subst eb
          exact h.ap a i ha hi hab k hk h1
        · have := (h.get ha).own.2.2.2 k hk
          omega
      · rw [if_neg eb] at hk2
        exact h.ap a b ha hb hab k hk hk2
theorem PcsAt.put (h : PcsAt B w t L) (hB : B ≤ w.heap.size) {i : Nat} (hi : i < L.length) (hN : (L.getD i pc0).N < 1000000) (req : Int) (hq : wf64 req) :
    Calls Tryz.prog 11 #[.pointer (some ⟨(L.getD i pc0).b, 0, none⟩), .int .i64 req] w fun e w' =>
      e = .returned (.tuple #[.int .i64 (pputP (L.getD i pc0).fl (L.getD i pc0).rows t req).2.1, .int .i64 (pputP (L.getD i pc0).fl (L.getD i pc0).rows t req).2.2]) ∧
      Mod (fun k => k = (L.getD i pc0).gT ∨ k = (L.getD i pc0).gM) w w' ∧
      ∃ F', (∀ k, F' k → (L.getD i pc0).F k ∨ w.heap.size ≤ k) ∧ PcsAt B w' t (L.set i { L.getD i pc0 with N := (L.getD i pc0).N + 1, rows := (pputP (L.getD i pc0).fl (L.getD i pc0).rows t req).1, F := F' }) := by
  obtain ⟨h1, h2, h3⟩ := h.get hi
  refine (pput_calls h2 h1 hN req hq).mono ?_
  rintro e w' ⟨e1, q1, m1⟩
  have hF : ∀ k, ((L.getD i pc0).F k ∨ (w.heap.size ≤ k ∧ k < w'.heap.size)) → (L.getD i pc0).F k ∨ w.heap.size ≤ k := fun k hk => by
    rcases hk with hk | hk
    · exact .inl hk
    · exact .inr hk.1
  refine ⟨e1, m1, _, hF, h.turn hi m1 ⟨q1, put_keeps h2 req, fun k hk => ?_⟩ hF⟩
  rcases hF k hk with hk | hk
  · exact h3 k hk
  · omega
theorem PcsAt.take (h : PcsAt B w t L) (hB : B ≤ w.heap.size) {i : Nat} (hi : i < L.length) (req : Int) (hq : wf64 req) :
    Calls Tryz.prog 14 #[.pointer (some ⟨(L.getD i pc0).b, 0, none⟩), .int .i64 req] w fun e w' => e = .returned (.int .i64 (ptakP (L.getD i pc0).rows req).2) ∧
      Mod (fun k => k = (L.getD i pc0).gT ∨ k = (L.getD i pc0).gM) w w' ∧
      ∃ F', (∀ k, F' k → (L.getD i pc0).F k ∨ w.heap.size ≤ k) ∧ PcsAt B w' t (L.set i { L.getD i pc0 with rows := (ptakP (L.getD i pc0).rows req).1, F := F' }) := by
  obtain ⟨h1, h2, h3⟩ := h.get hi
  refine (ptake_calls h2 h1 req hq).mono ?_
  rintro e w' ⟨e1, q1, m1⟩
  have hF : ∀ k, ((L.getD i pc0).F k ∨ (w.heap.size ≤ k ∧ k < w'.heap.size)) → (L.getD i pc0).F k ∨ w.heap.size ≤ k := fun k hk => by
    rcases hk with hk | hk
    · exact .inl hk
    · exact .inr hk.1
  refine ⟨e1, m1, _, hF, h.turn hi m1 ⟨q1, take_keeps h2 req, fun k hk => ?_⟩ hF⟩
  rcases hF k hk with hk | hk
  · exact h3 k hk
  · omega
theorem PcsAt.nil (h : t.length ≤ 1000) : PcsAt B w t [] := ⟨h, fun p hp => (by cases hp), fun i j hi => by simp at hi⟩
/-- one more, behind the others -/
theorem PcsAt.more (h : PcsAt B w t L) (hb : Below w.heap.size w w') {p : Pc} (hp : PcAt B w' t p) (hF : ∀ k, p.F k → w.heap.size ≤ k) : PcsAt B w' t (L ++ [p]) := by
  have hg : ∀ j, j < L.length → (L ++ [p]).getD j pc0 = L.getD j pc0 := fun j hj => by
    rw [List.getD_eq_getElem?_getD, List.getElem?_append_left hj, List.getD_eq_getElem?_getD]
  have hl : (L ++ [p]).getD L.length pc0 = p := by
    rw [List.getD_eq_getElem?_getD, List.getElem?_append_right (Nat.le_refl _), Nat.sub_self]
    rfl
  refine ⟨h.tl, fun q hq => ?_, fun a b ha hb' hab k hk hk2 => ?_⟩
  · rcases List.mem_append.1 hq with hq | hq
    · exact (h.at_ q hq).below hb
    · rw [List.mem_singleton] at hq
      rw [hq]
      exact hp
  · rw [List.length_append, List.length_singleton] at ha hb'
    by_cases ea : a < L.length
    · rw [hg a ea] at hk
      by_cases eb : b < L.length
      · rw [hg b eb] at hk2
        exact h.ap a b ea eb hab k hk hk2
      · obtain rfl : b = L.length := by omega
        rw [hl] at hk2
        have := (h.get ea).own.2.2.2 k hk
        have := hF k hk2
        omega
    · obtain rfl : a = L.length := by omega
      rw [hl] at hk
      rw [hg b (by omega)] at hk2
      have := (h.get (by omega : b < L.length)).own.2.2.2 k hk2
      have := hF k hk
      omega
/-- plans of unlike places are unlike blocks -/
theorem PcsAt.ne (h : PcsAt B w t L) {i j : Nat} (hi : i < L.length) (hj : j < L.length) (hij : i ≠ j) : (L.getD i pc0).b ≠ (L.getD j pc0).b := fun e => by
  have h1 := (h.get hi).own.1
  have h2 := (h.get hj).own.1
  rw [← e] at h2
  exact h.ap i j hi hj hij _ h1 h2
end
end Go.Proofs.YtkaoflndbcfodaaGreat
