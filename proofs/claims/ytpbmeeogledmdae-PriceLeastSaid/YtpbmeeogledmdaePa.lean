/-
  Layer 13, the program's: a plan as it lies in a world; Where, Has.
  Layer 13, plain: where requests are, when one is put or taken. Of no program's code.
-/
import Derived.Test.YtpbmeeogledmdaePnP
import Derived.Test.YtpbmeeogledmdaeMi
namespace Go.Proofs.Ytpbmeeogledmdae
open Go.RowKit

theorem els_nilP (w : World) (p : Option Addr) (n : Nat) : Els w p n [] := ⟨fun _ => rfl, fun x hx => (by cases hx), by simp, fun a _ k x j v hk => by simp at hk⟩
theorem els_modP {w w' : World} {p : Option Addr} {n : Nat} {R : List (List Value)} (h : Els w p n R) {S : Nat → Prop} (hm : Mod S w w') (hs : ∀ a, p = some a → R ≠ [] → ¬ S a.block) : Els w' p n R := by
  by_cases hR : R = []
  · subst hR; exact els_nilP _ _ _
  · exact ⟨h.nil, h.len, h.big, fun a ha k x j v hk hj => hm.cell_of (by have e : (a.add (k * n + j)).block = a.block := (by unfold Addr.add; split <;> rfl); rw [e]; exact hs a ha hR) (h.cells a ha k x j v hk hj)⟩
/-- a tour: a vehicle, and its route -/
def trV (v : Ve) (q : Option Addr × Nat) (n : Nat) : List Value := [.int .i64 (v 0), .int .i64 (v 1), .int .i64 (v 2), .int .i64 (v 3), .int .i64 (v 4), .slice q.1 n q.2]
def trs (fl : List Ve) (rows : List Rou2) (qs : List (Option Addr × Nat)) : List (List Value) := (List.range fl.length).map fun i => trV (fl.getD i ve0) (qs.getD i (none, 0)) (rows.getD i []).length
theorem trs_len (fl : List Ve) (rows : List Rou2) (qs : List (Option Addr × Nat)) : (trs fl rows qs).length = fl.length := by simp [trs]
theorem trs_at (fl : List Ve) (rows : List Rou2) (qs : List (Option Addr × Nat)) {i : Nat} (hi : i < fl.length) : (trs fl rows qs)[i]? = some (trV (fl.getD i ve0) (qs.getD i (none, 0)) (rows.getD i []).length) := by
  simp [trs, hi]
/-- what the map of a plan holds -/
def whM (rows : List Rou2) (r : Int) : Option Int := if 0 ≤ whereP rows r then some (whereP rows r) else none
structure PlanIn (w : World) (F : Nat → Prop) (b gT gM N : Nat) (fl : List Ve) (rows : List Rou2) (t : List Rq) (qT : Option Addr) (dT cT : Nat) (qs : List (Option Addr × Nat)) : Prop where
  box : Blk w b #[.slice qT t.length dT, .slice (some ⟨gT, 0, none⟩) fl.length cT, .map (some gM)] 76
  req : Els w qT 10 (t.map rqV)
  tb : ∃ C, Blk w gT C 78
  tours : Els w (some ⟨gT, 0, none⟩) 6 (trs fl rows qs)
  map : MapV Try.prog 3 3 w gM N (whM rows)
  row : ∀ i, Els w (qs.getD i (none, 0)).1 2 ((rows.getD i []).map stV)
  cap : ∀ i, (rows.getD i []).length ≤ (qs.getD i (none, 0)).2 ∧ (qs.getD i (none, 0)).2 ≤ 9223372036854775807
  rowB : ∀ i a, (qs.getD i (none, 0)).1 = some a → rows.getD i [] ≠ [] → F a.block ∧ a.block ≠ gT ∧ a.block ≠ gM
  reqB : ∀ a, qT = some a → t ≠ [] → F a.block ∧ a.block ≠ gT ∧ a.block ≠ gM
  fb : F b
  fT : F gT
  fM : F gM
  ne1 : b ≠ gT
  ne2 : b ≠ gM
  ne3 : gT ≠ gM
  lt : ∀ k, F k → k < w.heap.size
  len : rows.length = fl.length
  lenq : qs.length = fl.length
  many : fl.length ≤ 4 ∧ fl.length ≤ cT ∧ cT ≤ 9223372036854775807
  tcap : t.length ≤ dT ∧ dT ≤ 9223372036854775807
/-- the plan at block b lies in w, within the blocks of F; it changes gT and gM alone -/
def PlanAt (w : World) (F : Nat → Prop) (b gT gM N : Nat) (fl : List Ve) (rows : List Rou2) (t : List Rq) : Prop := ∃ qT dT cT qs, PlanIn w F b gT gM N fl rows t qT dT cT qs
theorem PlanIn.mod {w w' : World} {F : Nat → Prop} {b gT gM N : Nat} {fl : List Ve} {rows : List Rou2} {t : List Rq} {qT : Option Addr} {dT cT : Nat} {qs : List (Option Addr × Nat)} (h : PlanIn w F b gT gM N fl rows t qT dT cT qs)
    {S : Nat → Prop} (hm : Mod S w w') (hs : ∀ k, S k → ¬ F k) : PlanIn w' F b gT gM N fl rows t qT dT cT qs :=
  ⟨h.box.mod hm (fun s => hs _ s h.fb), els_modP h.req hm (fun a ha hR s => hs _ s (h.reqB a ha (fun e => hR (by rw [e]; rfl))).1), (by obtain ⟨C, hC⟩ := h.tb; exact ⟨C, hC.mod hm (fun s => hs _ s h.fT)⟩),
    els_modP h.tours hm (fun a ha _ s => (by cases ha; exact hs _ s h.fT)), h.map.mod hm (fun s => hs _ s h.fM), fun i => els_modP (h.row i) hm (fun a ha hR s => hs _ s (h.rowB i a ha (fun e => hR (by rw [e]; rfl))).1), h.cap, h.rowB, h.reqB,
    h.fb, h.fT, h.fM, h.ne1, h.ne2, h.ne3, fun k hk => Nat.lt_of_lt_of_le (h.lt k hk) hm.size, h.len, h.lenq, h.many, h.tcap⟩
theorem PlanAt.mod {w w' : World} {F : Nat → Prop} {b gT gM N : Nat} {fl : List Ve} {rows : List Rou2} {t : List Rq} (h : PlanAt w F b gT gM N fl rows t) {S : Nat → Prop} (hm : Mod S w w') (hs : ∀ k, S k → ¬ F k) : PlanAt w' F b gT gM N fl rows t := by
  obtain ⟨qT, dT, cT, qs, h⟩ := h
  exact ⟨qT, dT, cT, qs, h.mod hm hs⟩
theorem PlanAt.below {w w' : World} {F : Nat → Prop} {b gT gM N : Nat} {fl : List Ve} {rows : List Rou2} {t : List Rq} (h : PlanAt w F b gT gM N fl rows t) (hb : Below w.heap.size w w') : PlanAt w' F b gT gM N fl rows t :=
  h.mod ((Mod.refl (fun _ => False) w).after hb) (fun _ h => h.elim)
theorem exec_lookOk {P : Program} {ρ : Operand → Value} {o : Oper} {w : World} {x y : Operand} {t : TypeId} {b : Nat} {i : Int} {v : Value} (ho : o.op = .lookup t x y true) (hx : ρ x = .map (some b)) (hy : ρ y = .int .i64 i)
    (hrun : (Instr.lookup t (.map (some b)) (.int .i64 i) true).run P w = .ok v w) : (execOp ρ o).run P w = .ok (.value v) w := by
  simp [execOp, ho, hx, hy, hrun, Result.andThen]
set_option maxHeartbeats 1000000 in
set_option maxRecDepth 100000 in
theorem where_calls {w : World} {F : Nat → Prop} {b gT gM N : Nat} {fl : List Ve} {rows : List Rou2} {t : List Rq} (h : PlanAt w F b gT gM N fl rows t) (req : Int) (hq : wf64 req) :
    Calls Try.prog 22 #[.pointer (some ⟨b, 0, none⟩), .int .i64 req] w fun e w' => e = .returned (.int .i64 (whereP rows req)) ∧ w = w' := by
  obtain ⟨qT, dT, cT, qs, h⟩ := h
  have k2 := h.box.cell (i := 2) rfl
  have hl := Lib.hid (h.map.getOk Try.underlying3 Try.underlying3 (t := 74) Try.underlying74 (by kernel_rfl) hq)
  have hg := fstI_ge (fun l : Rou2 => l.any (fun s => s.1 == req)) rows
  change -1 ≤ whereP rows req ∧ _ at hg
  have hwm : whM rows req = if 0 ≤ whereP rows req then some (whereP rows req) else none := rfl
  generalize whereP rows req = X at *
  by_cases h0 : 0 ≤ X
  · rw [if_pos h0] at hwm
    rw [hwm] at hl
    clear h hwm
    go_enter Try.func22, Try.ntmps22
    go_wp2_with (refine wpList_v rfl (.tuple #[.int .i64 X, .bool true]) (exec_lookOk rfl rfl rfl hl.out) ?_)
    go_ret
    exact ⟨rfl, rfl⟩
  · rw [if_neg h0] at hwm
    rw [hwm] at hl
    obtain rfl : X = -1 := by omega
    clear h hwm hg h0
    go_enter Try.func22, Try.ntmps22
    go_wp2_with (refine wpList_v rfl (.tuple #[.int .i64 0, .bool false]) (exec_lookOk rfl rfl rfl hl.out) ?_)
    go_ret
    exact ⟨rfl, rfl⟩
set_option maxRecDepth 100000 in
theorem has_calls {w : World} {F : Nat → Prop} {b gT gM N : Nat} {fl : List Ve} {rows : List Rou2} {t : List Rq} (h : PlanAt w F b gT gM N fl rows t) (req : Int) (hq : wf64 req) :
    Calls Try.prog 8 #[.pointer (some ⟨b, 0, none⟩), .int .i64 req] w fun e w' => e = .returned (.bool (decide (0 ≤ whereP rows req))) ∧ w = w' := by
  have hw := Lib.hid (where_calls h req hq)
  clear h
  generalize whereP rows req = X at *
  go_enter Try.func8, Try.ntmps8
  go_wp2_with fail
  refine hw.out.mono ?_
  rintro e w1 ⟨rfl, rfl⟩
  go_wp2_with fail
  go_ret
  exact ⟨rfl, rfl⟩
end Go.Proofs.Ytpbmeeogledmdae
namespace Go.Proofs.Ytpbmeeogledmdae
open Go.RowKit

theorem where_one {fl : List Ve} {rows : List Rou2} {t : List Rq} (hP : PlnOk fl rows t) {i : Nat} {s : Int × Int} (hs : s ∈ rows.getD i []) : whereP rows s.1 = i := by
  by_cases h : whereP rows s.1 < 0
  · exact absurd rfl (where_getD h hs)
  · obtain ⟨k, hk, e, s', hs', e'⟩ := where_some (by omega : 0 ≤ whereP rows s.1)
    have hk' : s' ∈ rows.getD k [] := by rw [List.getD_eq_getElem?_getD, List.getElem?_eq_getElem hk]; exact hs'
    have := hP.one k i s' s hk' hs e'
    rw [e, this]
theorem whM_some {rows : List Rou2} {r : Int} (h : 0 ≤ whereP rows r) : whM rows r = some (whereP rows r) := if_pos h
theorem whM_none {rows : List Rou2} {r : Int} (h : whereP rows r < 0) : whM rows r = none := if_neg (by omega)
/-- a route turned: where all other requests are stays -/
theorem whM_turn {fl : List Ve} {rows : List Rou2} {t : List Rq} (_hP : PlnOk fl rows t) {i : Nat} {l : Rou2} (hP' : PlnOk fl (rows.set i l) t) {req : Int} (hi : i < rows.length) (hs : ∀ s : Int × Int, s.1 ≠ req → (s ∈ l ↔ s ∈ rows.getD i [])) {r : Int} (hr : r ≠ req) : whM (rows.set i l) r = whM rows r := by
  by_cases h : 0 ≤ whereP rows r
  · obtain ⟨k, hk, e, s, hs1, rfl⟩ := where_some h
    have hk' : s ∈ rows.getD k [] := by rw [List.getD_eq_getElem?_getD, List.getElem?_eq_getElem hk]; exact hs1
    have hn : s ∈ (rows.set i l).getD k [] := by
      rw [getD_setS]
      by_cases hik : i = k
      · subst hik
        rw [if_pos ⟨rfl, hi⟩]
        exact (hs s hr).2 hk'
      · rw [if_neg (fun x => hik x.1)]
        exact hk'
    have e2 := where_one hP' hn
    rw [whM_some h, whM_some (by omega), e, e2]
  · by_cases h2 : 0 ≤ whereP (rows.set i l) r
    · exfalso
      obtain ⟨k, hk, e, s, hs1, rfl⟩ := where_some h2
      have hk' : s ∈ (rows.set i l).getD k [] := by rw [List.getD_eq_getElem?_getD, List.getElem?_eq_getElem hk]; exact hs1
      rw [getD_setS] at hk'
      have h3 : s ∈ rows.getD k [] := by
        by_cases hik : i = k
        · subst hik
          rw [if_pos ⟨rfl, hi⟩] at hk'
          exact (hs s hr).1 hk'
        · rw [if_neg (fun x => hik x.1)] at hk'
          exact hk'
      exact where_getD (by omega) h3 rfl
    · rw [whM_none (by omega), whM_none (by omega)]
theorem whM_put {fl : List Ve} {rows : List Rou2} {t : List Rq} (hP : PlnOk fl rows t) {req : Int} {i a b : Nat} (hi : i < fl.length) (hab : a ≤ b) (hb : b ≤ (rows.getD i []).length) (hw : whereP rows req < 0)
    (hP' : PlnOk fl (rows.set i (withL (rows.getD i []) req a b)) t) : whM (rows.set i (withL (rows.getD i []) req a b)) = fun j => if j = req then some (i : Int) else whM rows j := by
  have hir : i < rows.length := by rw [hP.len]; exact hi
  funext j
  by_cases hj : j = req
  · subst hj
    rw [if_pos rfl]
    have hn : (j, (0 : Int)) ∈ (rows.set i (withL (rows.getD i []) j a b)).getD i [] := by
      rw [getD_setS, if_pos ⟨rfl, hir⟩]
      exact (withL_in hab hb).2 (.inl rfl)
    have := where_one hP' hn
    rw [whM_some (by dsimp only at this; omega)]
    dsimp only at this
    rw [this]
  · rw [if_neg hj]
    refine whM_turn hP hP' hir (fun s hs => ?_) hj
    rw [withL_in hab hb]
    constructor
    · rintro (rfl | rfl | h)
      · exact absurd rfl hs
      · exact absurd rfl hs
      · exact h
    · exact fun h => .inr (.inr h)
theorem whM_take {fl : List Ve} {rows : List Rou2} {t : List Rq} (hP : PlnOk fl rows t) {req : Int} {i : Nat} (hi : i < fl.length) (hw : whereP rows req = i)
    (hP' : PlnOk fl (rows.set i (woP (rows.getD i []) req)) t) : whM (rows.set i (woP (rows.getD i []) req)) = fun j => if j = req then none else whM rows j := by
  have hir : i < rows.length := by rw [hP.len]; exact hi
  funext j
  by_cases hj : j = req
  · subst hj
    rw [if_pos rfl]
    apply whM_none
    by_cases h2 : 0 ≤ whereP (rows.set i (woP (rows.getD i []) j)) j
    · exfalso
      obtain ⟨k, hk, e, s, hs1, rfl⟩ := where_some h2
      have hk' : s ∈ (rows.set i (woP (rows.getD i []) s.1)).getD k [] := by rw [List.getD_eq_getElem?_getD, List.getElem?_eq_getElem hk]; exact hs1
      rw [getD_setS] at hk'
      by_cases hik : i = k
      · subst hik
        rw [if_pos ⟨rfl, hir⟩] at hk'
        exact (woP_mem.1 hk').2 rfl
      · rw [if_neg (fun x => hik x.1)] at hk'
        have := where_one hP hk'
        omega
    · omega
  · rw [if_neg hj]
    refine whM_turn hP hP' hir (fun s hs => ?_) hj
    rw [woP_mem]
    exact ⟨fun h => h.1, fun h => ⟨h, hs⟩⟩
theorem blk_atP {w : World} {b : Nat} {C : Array Value} {t : TypeId} (h : Blk w b C t) (i : Nat) : w.cell? ⟨b, i, none⟩ = C[i]? := by
  unfold Blk at h
  simp [World.cell?, h]
theorem idx_eqP {n k j K J : Nat} (hj : j < n) (hJ : J < n) (e : K * n + J = k * n + j) : K = k ∧ J = j := by
  have h1 : (K * n + J) / n = K := by
    rw [Nat.mul_comm, Nat.mul_add_div (by omega), Nat.div_eq_of_lt hJ, Nat.add_zero]
  have h2 : (k * n + j) / n = k := by
    rw [Nat.mul_comm, Nat.mul_add_div (by omega), Nat.div_eq_of_lt hj, Nat.add_zero]
  have h3 : K = k := by rw [← h1, ← h2, e]
  subst h3
  exact ⟨rfl, by omega⟩
theorem addr0P (g n : Nat) : (⟨g, 0, none⟩ : Addr).add n = ⟨g, n, none⟩ := by unfold Addr.add; split <;> simp_all
/-- one cell of a row's element, stored -/
theorem els_setP {w : World} {g n : Nat} {E : TypeId} {C : Array Value} {R : List (List Value)} (hB : Blk w g C E) (h : Els w (some ⟨g, 0, none⟩) n R) {K J : Nat} (hK : K < R.length) (hJ : J < n) (v : Value) :
    Els (w.setCell ⟨g, K * n + J, none⟩ v) (some ⟨g, 0, none⟩) n (R.set K (R[K].set J v)) := by
  have hB' := hB.set (K * n + J) v
  have hlK := h.len _ (List.getElem_mem hK)
  refine ⟨fun e => (by cases e), fun x hx => ?_, by rw [List.length_set]; exact h.big, fun a ha k x j u hk hj => ?_⟩
  · rcases List.mem_or_eq_of_mem_set hx with hx | rfl
    · exact h.len x hx
    · rw [List.length_set]; exact hlK
  · cases ha
    have hjn : j < n := by
      have h1 := (List.getElem?_eq_some_iff.1 hj).1
      rcases List.mem_or_eq_of_mem_set (List.mem_of_getElem? hk) with hx | rfl
      · rw [h.len x hx] at h1; exact h1
      · rw [List.length_set, hlK] at h1; exact h1
    rw [addr0P, blk_atP hB', Array.getElem?_setIfInBounds]
    by_cases e : K * n + J = k * n + j
    · obtain ⟨rfl, rfl⟩ := idx_eqP hjn hJ e
      rw [List.getElem?_set_self hK] at hk
      cases hk
      rw [List.getElem?_set_self (by omega)] at hj
      cases hj
      have h0 := h.cells _ rfl K R[K] J R[K][J] (List.getElem?_eq_getElem hK) (List.getElem?_eq_getElem (by omega))
      rw [addr0P, blk_atP hB] at h0
      rw [if_pos rfl, if_pos (Array.getElem?_eq_some_iff.1 h0).1]
    · rw [if_neg e]
      by_cases ek : K = k
      · subst ek
        rw [List.getElem?_set_self hK] at hk
        cases hk
        rw [List.getElem?_set_ne (fun e2 => e (by rw [e2]))] at hj
        have h0 := h.cells _ rfl K R[K] j u (List.getElem?_eq_getElem hK) hj
        rwa [addr0P, blk_atP hB] at h0
      · rw [List.getElem?_set_ne ek] at hk
        have h0 := h.cells _ rfl k x j u hk hj
        rwa [addr0P, blk_atP hB] at h0
theorem trs_set (fl : List Ve) (rows : List Rou2) (qs : List (Option Addr × Nat)) {i : Nat} (hi : i < fl.length) (hr : rows.length = fl.length) (hq : qs.length = fl.length) (l : Rou2) (q : Option Addr) (d : Nat) (hi' : i < (trs fl rows qs).length) :
    (trs fl rows qs).set i ((trs fl rows qs)[i].set 5 (.slice q l.length d)) = trs fl (rows.set i l) (qs.set i (q, d)) := by
  apply List.ext_getElem?
  intro j
  have e := trs_at fl rows qs hi
  rw [List.getElem?_eq_getElem hi'] at e
  rw [Option.some.inj e]
  by_cases hj : j < fl.length
  · rw [trs_at fl _ _ hj, getD_setS, getD_setS]
    by_cases hij : i = j
    · subst hij
      rw [List.getElem?_set_self hi', if_pos ⟨rfl, by omega⟩, if_pos ⟨rfl, by omega⟩]
      rfl
    · rw [List.getElem?_set_ne hij, if_neg (fun x => hij x.1), if_neg (fun x => hij x.1), trs_at fl rows qs hj]
  · rw [List.getElem?_eq_none (by rw [List.length_set, trs_len]; omega), List.getElem?_eq_none (by rw [trs_len]; omega)]
/-- a plan of which one route was turned -/
theorem PlanIn.next {w w' : World} {F : Nat → Prop} {b gT gM N N' : Nat} {fl : List Ve} {rows : List Rou2} {t : List Rq} {qT : Option Addr} {dT cT : Nat} {qs : List (Option Addr × Nat)} (h : PlanIn w F b gT gM N fl rows t qT dT cT qs)
    (hm : Mod (fun k => k = gT ∨ k = gM) w w') {i : Nat} {l : Rou2} {q : Option Addr} {d : Nat} (hi : i < fl.length) (hT : Els w' (some ⟨gT, 0, none⟩) 6 (trs fl (rows.set i l) (qs.set i (q, d)))) (htb : ∃ C, Blk w' gT C 78)
    (hM : MapV Try.prog 3 3 w' gM N' (whM (rows.set i l))) (hrow : Els w' q 2 (l.map stV)) (hcap : l.length ≤ d ∧ d ≤ 9223372036854775807) (hf : l ≠ [] → ∀ a, q = some a → w.heap.size ≤ a.block ∧ a.block < w'.heap.size) :
    PlanIn w' (fun k => F k ∨ (w.heap.size ≤ k ∧ k < w'.heap.size)) b gT gM N' fl (rows.set i l) t qT dT cT (qs.set i (q, d)) := by
  have hT1 := h.lt gT h.fT
  have hM1 := h.lt gM h.fM
  have hir : i < rows.length := by rw [h.len]; exact hi
  have hiq : i < qs.length := by rw [h.lenq]; exact hi
  refine ⟨h.box.mod hm (fun s => by rcases s with s | s; exact h.ne1 s; exact h.ne2 s), els_modP h.req hm (fun a ha hR s => by have := h.reqB a ha (fun e => hR (by rw [e]; rfl)); rcases s with s | s; exact this.2.1 s; exact this.2.2 s), htb, hT, hM, fun j => ?_, fun j => ?_, fun j a ha hne => ?_,
    fun a ha hne => ⟨.inl (h.reqB a ha hne).1, (h.reqB a ha hne).2⟩, .inl h.fb, .inl h.fT, .inl h.fM, h.ne1, h.ne2, h.ne3, fun k hk => ?_, by rw [List.length_set]; exact h.len, by rw [List.length_set]; exact h.lenq, h.many, h.tcap⟩
  · rw [getD_setS, getD_setS]
    by_cases hij : i = j
    · subst hij
      rw [if_pos ⟨rfl, hiq⟩, if_pos ⟨rfl, hir⟩]
      exact hrow
    · rw [if_neg (fun x => hij x.1), if_neg (fun x => hij x.1)]
      exact els_modP (h.row j) hm (fun a ha hR s => by have := h.rowB j a ha (fun e => hR (by rw [e]; rfl)); rcases s with s | s; exact this.2.1 s; exact this.2.2 s)
  · rw [getD_setS, getD_setS]
    by_cases hij : i = j
    · subst hij
      rw [if_pos ⟨rfl, hir⟩, if_pos ⟨rfl, hiq⟩]
      exact hcap
    · rw [if_neg (fun x => hij x.1), if_neg (fun x => hij x.1)]
      exact h.cap j
  · rw [getD_setS] at ha hne
    by_cases hij : i = j
    · subst hij
      rw [if_pos ⟨rfl, hiq⟩] at ha
      rw [if_pos ⟨rfl, hir⟩] at hne
      have := hf hne a ha
      exact ⟨.inr this, by omega, by omega⟩
    · rw [if_neg (fun x => hij x.1)] at ha
      rw [if_neg (fun x => hij x.1)] at hne
      have := h.rowB j a ha hne
      exact ⟨.inl this.1, this.2⟩
  · rcases hk with hk | hk
    · exact Nat.lt_of_lt_of_le (h.lt k hk) hm.size
    · exact hk.2
end Go.Proofs.Ytpbmeeogledmdae
