/-
  Layer 13, the program's: New.
-/
import Derived.Test.YtdmnoogppmckaaaGreatPe
namespace Go.Proofs.YtdmnoogppmckaaaGreat
open Go.RowKit

theorem rqV_allP (l : List Rq) : ∀ z ∈ l.map rqV, ∀ u ∈ z, u.oneCell' = true := by
  intro z hz
  obtain ⟨s, _, rfl⟩ := List.mem_map.1 hz
  exact rq_one s
theorem run_nilR {ρ : Operand → Value} {o : Oper} {w : World} {x : Operand} {p : Option Addr} {n c : Nat} (ho : o.op = .binOp .eql 23 x (.const (.slice none 0 0)) 23) (hx : ρ x = .slice p n c) (hc : ρ (.const (.slice none 0 0)) = .slice none 0 0 := by rfl) :
    (execOp ρ o).run Tryz.prog w = .ok (.value (.bool p.isNone)) w := by
  have h := Lib.run_eql_slice_nil (P := Tryz.prog) w 23 72 p n c 0 0 Tryz.underlying23
  cases p <;> (unfold execOp; simp only [ho, hx, hc]; go_simp)
theorem rsl_rqZP (w : World) : (Instr.buildSlice 23 0 #[]).run Tryz.prog w = .ok (.slice (some ⟨w.heap.size, 0, none⟩) 0 0) (w.alloc (.cells #[] 72)) := by kernel_rfl
/-- what Clone hands back -/
def RcPost (w : World) (l : List Rq) (e : Ending) (w' : World) : Prop :=
  Below w.heap.size w w' ∧ ∃ q d, e = .returned (.slice q l.length d) ∧ (l.length ≤ d ∧ d ≤ 9223372036854775807) ∧ Els w' q 10 (l.map rqV) ∧ ∀ a, q = some a → w.heap.size ≤ a.block
set_option maxHeartbeats 1000000 in
set_option maxRecDepth 100000 in
theorem rclone_calls (p : Option Addr) (c : Nat) (l : List Rq) (w : World) (hE : Els w p 10 (l.map rqV)) (hl : l.length ≤ 1000) :
    Calls Tryz.prog 28 #[.slice p l.length c] w (RcPost w l) := by
  cases p with
  | none =>
    have h0 : l = [] := by have := hE.nil rfl; simpa using this
    subst h0
    clear hE
    show Calls Tryz.prog 28 #[.slice none 0 c] w _
    go_enter Tryz.func28, Tryz.ntmps28
    go_wp2_with (refine wpList_v rfl (.bool true) (run_nilR (p := none) rfl rfl) ?_)
    go_ret
    exact ⟨Below.refl _ _, none, 0, rfl, ⟨Nat.le_refl _, by omega⟩, els_nilP _ _ _, fun a h => by cases h⟩
  | some a =>
    have ho1 := Lib.hid (World.ownsRow_made (base := w.heap.size) (e := 72) (size := 10) w #[] 0 (Nat.le_refl _) (by unfold maxLen; omega) rfl)
    have hlow1 := Lib.hid (new_below w (.cells #[] 72))
    have hEA := Lib.hid (hE.below hlow1.out)
    have hz1 := Lib.hid hlow1.out.size
    have hTl := Lib.hid (show l.length = (l.map rqV).length by rw [List.length_map])
    have hall := Lib.hid (rqV_allP l)
    replace hE := Lib.hid hE
    go_enter Tryz.func28, Tryz.ntmps28
    go_wp2_with (first | (refine wpList_v rfl (.bool false) (run_nilR (p := some a) rfl rfl) ?_) | (refine wpList_bs0 rfl 23 0 rfl _ _ (rsl_rqZP _) ?_) |
      (refine wpList_appE rq_el rfl _ _ rfl w.heap.size hz1.out _ 0 [] rfl ho1.out (by omega) (some a) l.length c _ rfl hEA.out hTl.out (by omega) hall.out ?_; intro v6 w6 hO6 hg6))
    have hlow6 := grown_low hlow1.out (Nat.le_refl _) (Nat.le_refl _) ho1.out hg6
    rw [Nat.zero_add, List.nil_append] at hO6
    obtain ⟨qO, nO, dO, rfl⟩ := own_isS hO6
    obtain ⟨hEO, hnO, hdO, hfO⟩ := own_els (R := l.map rqV) (rqV_len _) (by rw [List.length_map]; exact hO6) (by rw [List.length_map]; omega)
    rw [List.length_map] at hnO
    subst hnO
    have hcap := own_cap hO6
    clear ho1 hlow1 hEA hz1 hg6 hO6 hall hTl
    go_wp2_with fail
    go_ret
    exact ⟨hlow6, qO, dO, rfl, ⟨hdO, hcap⟩, hEO, fun a ha => (hfO a ha).1⟩

set_option maxHeartbeats 1000000 in
set_option maxRecDepth 100000 in
theorem index_rq (p : Option Addr) (c : Nat) (R : List (Rq)) (f : FuncId) (caps : Array Value) (Pd : Rq → Bool) (w : World) (hE : Els w p 10 (R.map rqV)) (eg : ∀ args w, (callFunc f args).run Tryz.prog w = .ok (.enter f args) w)
    (hf : ∀ r ∈ R, ∀ wx, Below w.heap.size w wx → Calls Tryz.prog f (#[.agg (rqV r).toArray] ++ caps) wx fun e w' => e = .returned (.bool (Pd r)) ∧ Below wx.heap.size wx w') :
    Calls Tryz.prog 62 #[.slice p R.length c, .func (.func f) #[] caps] w fun e w' => (∃ i : Int, e = .returned (.int .i64 i) ∧ (0 ≤ i ↔ R.any Pd = true)) ∧ Below w.heap.size w w' := by
  have hb : R.length ≤ 140737488351232 := by simpa using hE.big
  replace hE := Lib.hid hE
  replace hf := Lib.hid hf
  go_enter Tryz.func62, Tryz.ntmps62
  go_wp2_with fail
  go_loopw [8] (fun i wr => ∃ k : Nat, k ≤ R.length ∧ i = .int .i64 k ∧ Hid (∀ j r, j < k → R[j]? = some r → Pd r = false) ∧ Below w.heap.size w wr) (fun i _ => R.length - (intOf i).toNat)
  case atStart => exact ⟨0, Nat.zero_le _, rfl, Lib.hid (fun j r h => by omega), Below.refl _ _⟩
  case round =>
    obtain ⟨k, hk, rfl, hR, hbr⟩ := hrel
    by_cases hlt : k < R.length
    · have hltI : (k : Int) < (R.length : Int) := by omega
      have s1 : IntKind.i64.wrap ((k : Int) + 1) = (k : Int) + 1 := IntWalk.i64_in _ (by omega)
      obtain ⟨a, rfl⟩ := (hE.out.below hbr).some_of (k := k) (by simpa using hlt)
      have hc : Hid ((loadVar 72 (a.add (k * 10))).run Tryz.prog wr = .ok (.agg (rqV R[k]).toArray) wr) := Lib.hid (by
        have := (hE.out.below hbr).load (P := Tryz.prog) (a := a) rfl (k := k) (by simpa using hlt) (ty := 72) Tryz.underlying72 rfl (by kernel_rfl)
        rw [List.getElem_map] at this
        exact this)
      have hfk := Lib.hid (hf.out _ (List.getElem_mem hlt) wr hbr)
      have hok : Hid (Pd R[k] = false → ∀ j r, j < k + 1 → R[j]? = some r → Pd r = false) := Lib.hid (fun h j u hj hju => by
        by_cases e : j = k
        · subst e; rw [List.getElem?_eq_getElem hlt] at hju; cases hju; exact h
        · exact hR.out j u (by omega) hju)
      have hbad : Hid (Pd R[k] = true → R.any Pd = true) := Lib.hid (fun h => List.any_eq_true.2 ⟨_, List.getElem_mem hlt, h⟩)
      generalize R[k] = r at hc hfk hok hbad
      generalize (rqV r).toArray = rv at hc hfk
      generalize Pd r = b at hfk hok hbad
      clear hR
      go_wp2_with (first | (refine wpList_load_v rfl 72 _ rfl (a.add (k * 10)) rfl _ hc.out ?_))
      refine hfk.out.mono ?_
      rintro e w2 ⟨rfl, hb2⟩
      replace hb2 := hbr.trans (hb2.mono hbr.size)
      clear hfk hbr hc
      cases b with
      | true =>
        have hy := hbad.out rfl
        clear hbad hok
        go_wp2
        go_ret
        exact ⟨⟨k, rfl, by simp [hy]⟩, hb2⟩
      | false =>
        have hok' := Lib.hid (hok.out rfl)
        clear hbad hok
        go_wp2_with fail
        go_roundw
        case rel => exact ⟨k + 1, by omega, by simp, hok', hb2⟩
        case measure => simp [intOf]; omega
    · obtain rfl : k = R.length := by omega
      have hn : R.any Pd = false := by
        rw [List.any_eq_false]
        intro x hx
        obtain ⟨j, hj, rfl⟩ := List.getElem_of_mem hx
        rw [hR.out j _ hj (List.getElem?_eq_getElem hj)]
        decide
      clear hR
      go_wp2
      go_ret
      exact ⟨⟨-1, rfl, by simp [hn]⟩, hbr⟩
theorem contains_rq (p : Option Addr) (c : Nat) (R : List (Rq)) (f : FuncId) (caps : Array Value) (Pd : Rq → Bool) (w : World) (hE : Els w p 10 (R.map rqV)) (eg : ∀ args w, (callFunc f args).run Tryz.prog w = .ok (.enter f args) w)
    (hf : ∀ r ∈ R, ∀ wx, Below w.heap.size w wx → Calls Tryz.prog f (#[.agg (rqV r).toArray] ++ caps) wx fun e w' => e = .returned (.bool (Pd r)) ∧ Below wx.heap.size wx w') :
    Calls Tryz.prog 30 #[.slice p R.length c, .func (.func f) #[] caps] w fun e w' => e = .returned (.bool (R.any Pd)) ∧ Below w.heap.size w w' := by
  have hi := Lib.hid (index_rq p c R f caps Pd w hE eg hf)
  clear hf eg
  generalize R.any Pd = b at hi ⊢
  go_enter Tryz.func30, Tryz.ntmps30
  go_wp2_with fail
  refine hi.out.mono ?_
  rintro e w2 ⟨⟨i, rfl, h⟩, hb2⟩
  replace h := Lib.hid h
  clear hi
  by_cases h0 : 0 ≤ i
  · obtain rfl : b = true := h.out.1 h0
    clear h
    go_wp2
    go_ret
    exact ⟨by simp, hb2⟩
  · obtain rfl : b = false := by
      cases b with
      | false => rfl
      | true => exact absurd (h.out.2 rfl) h0
    clear h
    go_wp2
    go_ret
    exact ⟨by simp [h0], hb2⟩

set_option maxRecDepth 100000 in
theorem new1_calls (r : Rq) (w : World) : Calls Tryz.prog 31 #[.agg (rqV r).toArray] w fun e w' => e = .returned (.bool (rqE r != 0)) ∧ Below w.heap.size w w' := by
  have hc := Lib.hid (fun wx => check_calls (r 0) (r 1) (r 2) (r 3) (r 4) (r 5) (r 6) (r 7) (r 8) (r 9) wx)
  change Hid (∀ wx, Calls Tryz.prog 32 #[.agg (rqV r).toArray] wx fun e w' => e = .returned (.int .i64 (rqE r)) ∧ Below wx.heap.size wx w') at hc
  obtain ⟨Y, hY⟩ : ∃ Y, (rqV r).toArray = Y := ⟨_, rfl⟩
  have hYs : Y.size = 10 := by rw [← hY]; rfl
  rw [hY] at hc ⊢
  generalize rqE r = c at *
  have hB := Lib.hid (Blk.new w Y 72)
  have hl := Lib.hid (run_load_row (P := Tryz.prog) _ w.heap.size 72 Y _ _ hB.out Tryz.underlying72 rfl (by rw [hYs]; kernel_rfl))
  have hb0 := Lib.hid (new_below w (.cells Y 72))
  have hz : (w.alloc (.cells Y 72)).heap.size = w.heap.size + 1 := by simp
  replace hz := Lib.hid hz
  replace hYs := Lib.hid hYs
  clear hY hB
  go_enter Tryz.func31, Tryz.ntmps31
  go_wp2_with (refine wpList_load_v rfl 72 _ rfl ⟨w.heap.size, 0, none⟩ rfl _ hl.out ?_)
  refine (hc.out _).mono ?_
  rintro e w2 ⟨rfl, hb⟩
  have hb2 := Lib.hid (hb0.out.trans (hb.mono (by rw [hz.out]; omega)))
  clear hb
  go_wp2
  go_ret
  exact ⟨by simp [bne, BEq.beq], hb2.out⟩
end Go.Proofs.YtdmnoogppmckaaaGreat
