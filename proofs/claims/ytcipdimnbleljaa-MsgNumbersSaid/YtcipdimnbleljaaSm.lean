/-
  The document's side of layer 18: SameMarks.
-/
import Derived.Test.YtcipdimnbleljaaTr
import Derived.Stop.BytesEq
namespace Go.Proofs.Ytcipdimnbleljaa
open Go.RowKit
open Extern.Stop (cell)

theorem neq_mark (w : World) (x y : Int × List UInt8) (hx : x.2.length = 32) (hy : y.2.length = 32) :
    (binOp .neq 65 (.agg (markRow x).toArray) (.agg (markRow y).toArray)).run Try.prog w = .ok (.bool (!decide (x = y))) w := by
  have hd : ∀ w, (Op.equalIn 9999 37 (.agg (x.2.map cell).toArray) (.agg (y.2.map cell).toArray)).run Try.prog w = .ok (x.2 == y.2) w := fun w =>
    run_equalIn_bytes w 9997 37 5 32 Try.underlying37 Try.underlying5 (fun w => by kernel_rfl) x.2 y.2 hx hy
  have t1 : List.take 32 (List.map cell x.2) = List.map cell x.2 := List.take_of_length_le (by simp [hx])
  have t2 : List.take 32 (List.map cell y.2) = List.map cell y.2 := List.take_of_length_le (by simp [hy])
  unfold markRow
  go_simp
  by_cases h1 : x.1 = y.1
  · rw [if_pos h1]
    by_cases h2 : x.2 = y.2
    · have e : x = y := Prod.ext h1 h2
      subst e
      simp
    · have e : ¬ x = y := fun e => h2 (by rw [e])
      simp [h2, e]
  · have e : ¬ x = y := fun e => h1 (by rw [e])
    rw [if_neg h1]
    simp [e]

/-- an operation of a quiet region whose run is known -/
theorem wpQuiet_v {P : Program} {ops : Array Oper} {C : World → Prop} {Q : Act → Prop} {rest : List Oper} {o : Oper} {a : Act} (hgd : Region.wanted o (yielded ops a.tmps) = true) (v : Value)
    (hrun : ∀ w, C w → (execOp a.eval o).run P w = .ok (.value v) w) (h : wpQuiet P ops C Q rest (a.put o.dst v)) : wpQuiet P ops C Q (o :: rest) a := by
  unfold wpQuiet
  rw [if_pos hgd]
  exact ⟨v, fun w hw => by unfold Oper.quietAt; rw [hrun w hw]; exact ⟨rfl, rfl⟩, h⟩
theorem run_load_v {P : Program} {ρ : Operand → Value} {o : Oper} {w : World} {ty : TypeId} {x : Operand} (ho : o.op = .load ty x) {p : Addr} (hx : ρ x = .pointer (some p)) {v : Value} (hrun : (loadVar ty p).run P w = .ok v w) :
    (execOp ρ o).run P w = .ok (.value v) w := by
  unfold execOp; simp only [ho, hx, Instr.loadAt, Instr.sureAddr, Sem.run_bind, Sem.run_pure, Result.andThen_ok, hrun]
theorem run_bin_v {P : Program} {ρ : Operand → Value} {o : Oper} {w : World} {bop : BinOp} {ty ty2 : TypeId} {x y : Operand} (ho : o.op = .binOp bop ty x y ty2) {X Y : Array Value} (hx : ρ x = .agg X) (hy : ρ y = .agg Y)
    (hm : P.eqGuardType P.depth ty = false) {v : Value} (hrun : (binOp bop ty (.agg X) (.agg Y)).run P w = .ok v w) : (execOp ρ o).run P w = .ok (.value v) w := by
  unfold execOp; simp only [ho, hx, hy, Sem.run_bind, run_eqGuard_agg w bop ty x y X Y hm, hrun, Sem.run_pure, Result.andThen_ok]

/-- marks that lie in a world, without a message -/
structure MksAt (w : World) (p : Option Addr) (ms : List (Int × List UInt8)) : Prop where
  nil : p = none → ms = []
  len : ∀ x ∈ ms, x.2.length = 32
  big : ms.length ≤ 9223372036854775807
  cells : ∀ a, p = some a → ∀ j v, (mkCells ms)[j]? = some v → w.cell? (a.add j) = some v
theorem MarksAt.mks {w : World} {m : MV} (h : MarksAt w m) : MksAt w m.p m.ms := ⟨h.nil, h.len, h.big, h.cells⟩
theorem MksAt.below {w w' : World} {p : Option Addr} {ms : List (Int × List UInt8)} (h : MksAt w p ms) (hb : Below w.heap.size w w') : MksAt w' p ms :=
  ⟨h.nil, h.len, h.big, fun a ha j v hj => (hb.cell (p := a.add j) (World.block_lt_of_cell? w (a.add j) (h.cells a ha j v hj))).trans (h.cells a ha j v hj)⟩
theorem MksAt.load {P : Program} {w : World} {p : Option Addr} {ms : List (Int × List UInt8)} (h : MksAt w p ms) {a : Addr} (ha : p = some a) {k : Nat} (hk : k < ms.length) {ty : TypeId} {d : TypeDesc}
    (hu : P.underlying ty = some d) (hd : (match d with | .struct _ | .array _ _ => true | _ => false) = true) (hi : (P.info? ty).map (·.size) = some 33) :
    (loadVar ty (a.add (k * 33))).run P w = .ok (.agg (markRow ms[k]).toArray) w := by
  have hx := h.len _ (List.getElem_mem hk)
  refine run_loadVar_at w _ ty (markRow ms[k]) d (fun j v hj => ?_) hu hd (by rw [hi, markRow_length _ hx])
  have hl : j < 33 := by
    have := (List.getElem?_eq_some_iff.1 hj).1
    rw [markRow_length _ hx] at this
    exact this
  rw [addr_add_add]
  exact h.cells a ha _ v ((mkCells_at ms k j ms[k] h.len (List.getElem?_eq_getElem hk) hl).trans hj)

set_option maxHeartbeats 2000000 in
set_option maxRecDepth 100000 in
theorem sameMarks_calls (p q : Option Addr) (xs ys : List (Int × List UInt8)) (c d : Nat) (w : World) (hA : MksAt w p xs) (hB : MksAt w q ys) :
    Calls Try.prog 34 #[.slice p xs.length c, .slice q ys.length d] w fun e w' => e = .returned (.bool (decide (xs = ys))) ∧ Below w.heap.size w w' := by
  have hbx := hA.big
  have hby := hB.big
  by_cases hl : xs.length = ys.length
  · have hX : ∃ X, decide (xs = ys) = X := ⟨_, rfl⟩
    obtain ⟨X, hX⟩ := hX
    rw [hX]
    replace hX := Lib.hid hX
    have HA := Lib.hid hA
    have HB := Lib.hid hB
    have HL := Lib.hid hl
    rw [← hl]
    clear hA hB hl hby
    go_enter Try.func34, Try.ntmps34
    go_wp2_with fail
    go_loopw [5] (fun i wr => ∃ k : Nat, k ≤ xs.length ∧ i = .int .i64 k ∧ xs.take k = ys.take k ∧ ∃ n, wr = w.drewN n) (fun i _ => xs.length - (intOf i).toNat)
    case atStart => exact ⟨0, Nat.zero_le _, rfl, rfl, 0, rfl⟩
    case round =>
      obtain ⟨k, hk, rfl, htake, n, rfl⟩ := hrel
      have HT := Lib.hid htake
      clear htake
      by_cases hlt : k < xs.length
      · have hlt' : k < ys.length := by rw [← HL.out]; exact hlt
        have hltI : (k : Int) < (xs.length : Int) := by omega
        have hk0 : (0 : Int) ≤ (k : Int) := by omega
        obtain ⟨a, ha⟩ : ∃ a, p = some a := by
          cases hp : p with
          | some a => exact ⟨a, rfl⟩
          | none => have := HA.out.nil hp; rw [this] at hlt; simp at hlt
        obtain ⟨b, hb⟩ : ∃ b, q = some b := by
          cases hq : q with
          | some b => exact ⟨b, rfl⟩
          | none => have := HB.out.nil hq; rw [this] at hlt'; simp at hlt'
        subst ha hb
        have hla := Lib.hid (fun n => (HA.out.below (below_drewN (Below.refl _ w) n)).load (P := Try.prog) rfl hlt Try.underlying65 rfl (by kernel_rfl))
        have hlb := Lib.hid (fun n => (HB.out.below (below_drewN (Below.refl _ w) n)).load (P := Try.prog) rfl hlt' Try.underlying65 rfl (by kernel_rfl))
        have hne := Lib.hid (fun w => neq_mark w xs[k] ys[k] (HA.out.len _ (List.getElem_mem hlt)) (HB.out.len _ (List.getElem_mem hlt')))
        have hst : decide (xs[k] = ys[k]) = true → xs.take (k + 1) = ys.take (k + 1) := fun h => by
          rw [List.take_succ_eq_append_getElem hlt, List.take_succ_eq_append_getElem hlt', HT.out, of_decide_eq_true h]
        have hsf : decide (xs[k] = ys[k]) = false → decide (xs = ys) = false := fun h => decide_eq_false (fun e => by
          subst e; simp at h)
        have HST := Lib.hid hst
        have HSF := Lib.hid hsf
        clear hst hsf
        generalize decide (xs[k] = ys[k]) = g at hne HST HSF
        go_wp2_with fail
        refine wp_region_quiet_lit (by kernel_rfl) (by kernel_rfl) ?_
        go_big_quiet_step (fail)
        go_big_quiet_step (fail)
        go_big_quiet_step (fail)
        refine wpQuiet_v rfl (.agg (markRow xs[k]).toArray) (by rintro _ ⟨j, rfl⟩; rw [World.drewN_drewN]; exact run_load_v rfl rfl (hla.out _)) ?_
        simp only [Act.put, List.setIfInBounds_toArray, List.set_cons_succ, List.set_cons_zero]
        go_big_quiet_step (fail)
        go_big_quiet_step (fail)
        go_big_quiet_step (fail)
        refine wpQuiet_v rfl (.agg (markRow ys[k]).toArray) (by rintro _ ⟨j, rfl⟩; rw [World.drewN_drewN]; exact run_load_v rfl rfl (hlb.out _)) ?_
        simp only [Act.put, List.setIfInBounds_toArray, List.set_cons_succ, List.set_cons_zero]
        refine wpQuiet_v rfl (.bool (!g)) (by rintro _ ⟨j, rfl⟩; exact run_bin_v rfl rfl rfl (by kernel_rfl) (hne.out _)) ?_
        simp only [Act.put, List.setIfInBounds_toArray, List.set_cons_succ, List.set_cons_zero]
        refine wpQuiet_nil ?_
        rintro _ ⟨j, rfl⟩
        rw [World.drewN_drewN]
        cases g
        · have HF := Lib.hid (HSF.out rfl)
          clear HSF HST
          go_wp2
          go_ret
          exact ⟨by rw [← hX.out, HF.out]; rfl, below_drewN (Below.refl _ _) _⟩
        · have HF := Lib.hid (HST.out rfl)
          clear HSF HST
          go_wp2
          go_roundw
          case rel => exact ⟨k + 1, by omega, by go_num, HF.out, _, rfl⟩
          case measure => simp [intOf]; omega
      · obtain rfl : k = xs.length := by omega
        have e : xs = ys := by
          have := HT.out
          rw [List.take_length, HL.out, List.take_length] at this
          exact this
        go_wp2
        go_ret
        exact ⟨by rw [← hX.out, decide_eq_true e]; rfl, below_drewN (Below.refl _ _) _⟩
  · rw [decide_eq_false (fun e => hl (by rw [e]))]
    go_enter Try.func34, Try.ntmps34
    go_wp2_with fail
    go_ret
    exact ⟨rfl, Below.refl _ _⟩
end Go.Proofs.Ytcipdimnbleljaa
