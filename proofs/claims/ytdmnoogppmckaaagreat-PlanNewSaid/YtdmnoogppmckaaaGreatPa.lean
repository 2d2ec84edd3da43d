/-
  Layer 13, the program's: a plan as it lies in a world; Where, Has.
-/
import Derived.Test.YtdmnoogppmckaaaGreatPnP
import Derived.Test.YtdmnoogppmckaaaGreatMi
namespace Go.Proofs.YtdmnoogppmckaaaGreat
open Go.RowKit

theorem els_nilP (w : World) (p : Option Addr) (n : Nat) : Els w p n [] := ⟨fun _ => rfl, fun x hx => (by cases hx), by simp, fun a _ k x j v hk => by simp at hk⟩
theorem els_modP {w w' : World} {p : Option Addr} {n : Nat} {R : List (List Value)} (h : Els w p n R) {S : Nat → Prop} (hm : Mod S w w') (hs : ∀ a, p = some a → R ≠ [] → ¬ S a.block) : Els w' p n R := by
  by_cases hR : R = []
  · subst hR; exact els_nilP _ _ _
  · exact ⟨h.nil, h.len, h.big, fun a ha k x j v hk hj => hm.cell_of (by have e : (a.add (k * n + j)).block = a.block := (by unfold Addr.add; split <;> rfl); rw [e]; exact hs a ha hR) (h.cells a ha k x j v hk hj)⟩
/-- a tour: a vehicle, and its route -/
def trV (v : Ve) (q : Option Addr × Nat) (n : Nat) : List Value := [.int .i64 (v 0), .int .i64 (v 1), .int .i64 (v 2), .int .i64 (v 3), .int .i64 (v 4), .slice q.1 n q.2]
def trs (fl : List Ve) (rows : List Rou2) (qs : List (Option Addr × Nat)) : List (List Value) := (List.range fl.length).map fun i => trV (fl.getD i ve0) (qs.getD i (none, 0)) (rows.getD i []).length
theorem trs_len (fl : List Ve) (rows : List Rou2) (qs : List (Option Addr × Nat)) : (trs fl rows qs).length = fl.length := by simp [trs]
theorem trs_at (fl : List Ve) (rows : List Rou2) (qs : List (Option Addr × Nat)) {i : Nat} (hi : i < fl.length) : (trs fl rows qs)[i]? = some (trV (fl.getD i ve0) (qs.getD i (none, 0)) (rows.getD i []).length) := by
  simp [trs, hi]
/-- what the map of a plan holds -/
def whM (rows : List Rou2) (r : Int) : Option Int := if 0 ≤ whereP rows r then some (whereP rows r) else none
structure PlanIn (w : World) (F : Nat → Prop) (b gT gM N : Nat) (fl : List Ve) (rows : List Rou2) (t : List Rq) (qT : Option Addr) (dT cT : Nat) (qs : List (Option Addr × Nat)) : Prop where
  box : Blk w b #[.slice qT t.length dT, .slice (some ⟨gT, 0, none⟩) fl.length cT, .map (some gM)] 80
  req : Els w qT 10 (t.map rqV)
  tb : ∃ C, Blk w gT C 83
  tours : Els w (some ⟨gT, 0, none⟩) 6 (trs fl rows qs)
  map : MapV Tryz.prog 3 3 w gM N (whM rows)
  row : ∀ i, Els w (qs.getD i (none, 0)).1 2 ((rows.getD i []).map stV)
  cap : ∀ i, (rows.getD i []).length ≤ (qs.getD i (none, 0)).2 ∧ (qs.getD i (none, 0)).2 ≤ 9223372036854775807
  rowB : ∀ i a, (qs.getD i (none, 0)).1 = some a → rows.getD i [] ≠ [] → F a.block ∧ a.block ≠ gT ∧ a.block ≠ gM
  reqB : ∀ a, qT = some a → t ≠ [] → F a.block ∧ a.block ≠ gT ∧ a.block ≠ gM
  fb : F b
  fT : F gT
  fM : F gM
  ne1 : b ≠ gT
  ne2 : b ≠ gM
  ne3 : gT ≠ gM
  lt : ∀ k, F k → k < w.heap.size
  len : rows.length = fl.length
  lenq : qs.length = fl.length
  many : fl.length ≤ 4 ∧ fl.length ≤ cT ∧ cT ≤ 9223372036854775807
  tcap : t.length ≤ dT ∧ dT ≤ 9223372036854775807
/-- the plan at block b lies in w, within the blocks of F; it changes gT and gM alone -/
def PlanAt (w : World) (F : Nat → Prop) (b gT gM N : Nat) (fl : List Ve) (rows : List Rou2) (t : List Rq) : Prop := ∃ qT dT cT qs, PlanIn w F b gT gM N fl rows t qT dT cT qs
theorem PlanIn.mod {w w' : World} {F : Nat → Prop} {b gT gM N : Nat} {fl : List Ve} {rows : List Rou2} {t : List Rq} {qT : Option Addr} {dT cT : Nat} {qs : List (Option Addr × Nat)} (h : PlanIn w F b gT gM N fl rows t qT dT cT qs)
    {S : Nat → Prop} (hm : Mod S w w') (hs : ∀ k, S k → ¬ F k) : PlanIn w' F b gT gM N fl rows t qT dT cT qs :=
  ⟨h.box.mod hm (fun s => hs _ s h.fb), els_modP h.req hm (fun a ha hR s => hs _ s (h.reqB a ha (fun e => hR (by rw [e]; rfl))).1), (by obtain ⟨C, hC⟩ := h.tb; exact ⟨C, hC.mod hm (fun s => hs _ s h.fT)⟩),
    els_modP h.tours hm (fun a ha _ s => (by cases ha; exact hs _ s h.fT)), h.map.mod hm (fun s => hs _ s h.fM), fun i => els_modP (h.row i) hm (fun a ha hR s => hs _ s (h.rowB i a ha (fun e => hR (by rw [e]; rfl))).1), h.cap, h.rowB, h.reqB,
    h.fb, h.fT, h.fM, h.ne1, h.ne2, h.ne3, fun k hk => Nat.lt_of_lt_of_le (h.lt k hk) hm.size, h.len, h.lenq, h.many, h.tcap⟩
theorem PlanAt.mod {w w' : World} {F : Nat → Prop} {b gT gM N : Nat} {fl : List Ve} {rows : List Rou2} {t : List Rq} (h : PlanAt w F b gT gM N fl rows t) {S : Nat → Prop} (hm : Mod S w w') (hs : ∀ k, S k → ¬ F k) : PlanAt w' F b gT gM N fl rows t := by
  obtain ⟨qT, dT, cT, qs, h⟩ := h
  exact ⟨qT, dT, cT, qs, h.mod hm hs⟩
theorem PlanAt.below {w w' : World} {F : Nat → Prop} {b gT gM N : Nat} {fl : List Ve} {rows : List Rou2} {t : List Rq} (h : PlanAt w F b gT gM N fl rows t) (hb : Below w.heap.size w w') : PlanAt w' F b gT gM N fl rows t :=
  h.mod ((Mod.refl (fun _ => False) w).after hb) (fun _ h => h.elim)
theorem exec_lookOk {P : Program} {ρ : Operand → Value} {o : Oper} {w : World} {x y : Operand} {t : TypeId} {b : Nat} {i : Int} {v : Value} (ho : o.op = .lookup t x y true) (hx : ρ x = .map (some b)) (hy : ρ y = .int .i64 i)
    (hrun : (Instr.lookup t (.map (some b)) (.int .i64 i) true).run P w = .ok v w) : (execOp ρ o).run P w = .ok (.value v) w := by
  simp [execOp, ho, hx, hy, hrun, Result.andThen]
set_option maxHeartbeats 1000000 in
set_option maxRecDepth 100000 in
theorem where_calls {w : World} {F : Nat → Prop} {b gT gM N : Nat} {fl : List Ve} {rows : List Rou2} {t : List Rq} (h : PlanAt w F b gT gM N fl rows t) (req : Int) (hq : wf64 req) :
    Calls Tryz.prog 38 #[.pointer (some ⟨b, 0, none⟩), .int .i64 req] w fun e w' => e = .returned (.int .i64 (whereP rows req)) ∧ w = w' := by
  obtain ⟨qT, dT, cT, qs, h⟩ := h
  have k2 := h.box.cell (i := 2) rfl
  have hl := Lib.hid (h.map.getOk Tryz.underlying3 Tryz.underlying3 (t := 77) Tryz.underlying77 (by kernel_rfl) hq)
  have hg := fstI_ge (fun l : Rou2 => l.any (fun s => s.1 == req)) rows
  change -1 ≤ whereP rows req ∧ _ at hg
  have hwm : whM rows req = if 0 ≤ whereP rows req then some (whereP rows req) else none := rfl
  generalize whereP rows req = X at *
  by_cases h0 : 0 ≤ X
  · rw [if_pos h0] at hwm
    rw [hwm] at hl
    clear h hwm
    go_enter Tryz.func38, Tryz.ntmps38
    go_wp2_with (refine wpList_v rfl (.tuple #[.int .i64 X, .bool true]) (exec_lookOk rfl rfl rfl hl.out) ?_)
    go_ret
    exact ⟨rfl, rfl⟩
  · rw [if_neg h0] at hwm
    rw [hwm] at hl
    obtain rfl : X = -1 := by omega
    clear h hwm hg h0
    go_enter Tryz.func38, Tryz.ntmps38
    go_wp2_with (refine wpList_v rfl (.tuple #[.int .i64 0, .bool false]) (exec_lookOk rfl rfl rfl hl.out) ?_)
    go_ret
    exact ⟨rfl, rfl⟩
set_option maxRecDepth 100000 in
theorem has_calls {w : World} {F : Nat → Prop} {b gT gM N : Nat} {fl : List Ve} {rows : List Rou2} {t : List Rq} (h : PlanAt w F b gT gM N fl rows t) (req : Int) (hq : wf64 req) :
    Calls Tryz.prog 15 #[.pointer (some ⟨b, 0, none⟩), .int .i64 req] w fun e w' => e = .returned (.bool (decide (0 ≤ whereP rows req))) ∧ w = w' := by
  have hw := Lib.hid (where_calls h req hq)
  clear h
  generalize whereP rows req = X at *
  go_enter Tryz.func15, Tryz.ntmps15
  go_wp2_with fail
  refine hw.out.mono ?_
  rintro e w1 ⟨rfl, rfl⟩
  go_wp2_with fail
  go_ret
  exact ⟨rfl, rfl⟩
end Go.Proofs.YtdmnoogppmckaaaGreat
