/-
  Layer 7, the program's: the parts of a route's stops, as an iterator.
-/
import Derived.Test.YtcdpiemkbefcoaaTi
namespace Go.Proofs.Ytcdpiemkbefcoaa
open Go.RowKit
attribute [local go_sem] Oper.semAt_some

section
variable {F : Fence} {n : Nat} {P : Program} {ops : Array Oper} {rest : List Oper} {o : Oper} {a : Act} {w w' : World} {Q : Exit → Act → World → Prop}
theorem wpListIn_v (hF : ∀ f, F.fn f) (hs : o.semAt F.round a.eval = execOp a.eval o) (hgd : Region.wanted o (yielded ops a.tmps) = true) (v : Value)
    (hrun : (execOp a.eval o).run P w = .ok (.value v) w') (h : wpListIn F n P ops Q rest (a.put o.dst v) w') : wpListIn F n P ops Q (o :: rest) a w :=
  wpListIn_step fun K hK => by
    rw [if_pos hgd]
    refine ⟨fun f _ => hF f, ?_⟩
    rw [hs, hrun]
    exact hK _ _ h
theorem wpListIn_sw (hF : ∀ f, F.fn f) (hs : o.semAt F.round a.eval = execOp a.eval o) (hgd : Region.wanted o (yielded ops a.tmps) = true) (hdst : o.dst = none)
    (hrun : (execOp a.eval o).run P w = .ok .skip w') (h : wpListIn F n P ops Q rest a w') : wpListIn F n P ops Q (o :: rest) a w :=
  wpListIn_step fun K hK => by
    rw [if_pos hgd]
    refine ⟨fun f _ => hF f, ?_⟩
    rw [hs, hrun]
    show K (a.put o.dst undef) _
    rw [hdst]
    exact hK _ _ h
theorem wpListIn_load_v (hF : ∀ f, F.fn f) (hs : o.semAt F.round a.eval = execOp a.eval o) (hgd : Region.wanted o (yielded ops a.tmps) = true) (ty : TypeId) (x : Operand) (ho : o.op = .load ty x)
    (p : Addr) (hx : a.eval x = .pointer (some p)) (v : Value) (hrun : (loadVar ty p).run P w = .ok v w) (h : wpListIn F n P ops Q rest (a.put o.dst v) w) : wpListIn F n P ops Q (o :: rest) a w :=
  wpListIn_v hF hs hgd v (run_load_v ho hx hrun) h
end
theorem parts_calls (p p' : Option Addr) (c c' n m : Nat) (w : World) : Calls Try.prog 47 #[.slice p n c, .slice p' m c'] w fun e w' =>
    e = .returned (.func (.func 73) #[] #[.pointer (some ⟨w.heap.size, 0, none⟩), .pointer (some ⟨w.heap.size + 1, 0, none⟩)]) ∧ (w.alloc (.cells #[.slice p n c] 29)).alloc (.cells #[.slice p' m c'] 30) = w' := by
  go_enter Try.func47, Try.ntmps47
  go_wp2
  go_ret
  exact ⟨rfl, rfl⟩

set_option maxHeartbeats 1000000 in
set_option maxRecDepth 100000 in
theorem parts_iter (p p' : Option Addr) (c c' : Nat) (l : List (Int × Int)) (t : List Rq) (w W : World) (b1 b2 : Nat) (hL : Els w p 2 (l.map stV)) (hT : Els w p' 10 (t.map rqV)) (hb : Below w.heap.size w W)
    (h1 : W.cell? ⟨b1, 0, none⟩ = some (.slice p l.length c)) (h2 : W.cell? ⟨b2, 0, none⟩ = some (.slice p' t.length c')) :
    Iter Try.prog 73 #[.pointer (some ⟨b1, 0, none⟩), .pointer (some ⟨b2, 0, none⟩)] (fun x : Pt × Bool => #[.agg x.1.row, .bool x.2]) (fun _ => False) (fun k => k < w.heap.size ∨ k = b1 ∨ k = b2) (l.map fun s => (ptG s t, ptB s t)) W := by
  intro yl J Jx n hJ hJx hY h0
  have hbl : l.length ≤ 140737488351232 := by simpa using hL.big
  replace hL := Lib.hid hL
  replace hT := Lib.hid hT
  replace hY := Lib.hid hY
  replace hJ := Lib.hid hJ
  replace hJx := Lib.hid hJx
  refine callsIn_of_wp Try.func73 rfl trivial ?_ rfl
  simp only [Try.ntmps73, List.size_toArray, List.length_cons, List.length_nil, Nat.reduceAdd, Nat.reduceSub, Array.replicate_succ, Array.replicate_zero, List.push_toArray, List.append_toArray, List.nil_append, List.cons_append]
  gi_wp2
  gi_loopw [8] (fun i wr => ∃ k : Nat, k ≤ l.length ∧ i = .int .i64 k ∧ J ((l.take k).map fun s => (ptG s t, ptB s t)) wr ∧ Below w.heap.size w wr ∧ wr.cell? ⟨b1, 0, none⟩ = some (.slice p l.length c) ∧ wr.cell? ⟨b2, 0, none⟩ = some (.slice p' t.length c')) (fun i _ => l.length - (intOf i).toNat)
  case atStart => exact ⟨0, Nat.zero_le _, rfl, h0, hb, h1, h2⟩
  case round =>
    obtain ⟨k, hk, rfl, hJk, hbr, c1, c2⟩ := hrel
    by_cases hlt : k < l.length
    · have hltI : (k : Int) < (l.length : Int) := by omega
      have s1 : IntKind.i64.wrap ((k : Int) + 1) = (k : Int) + 1 := IntWalk.i64_in _ (by omega)
      obtain ⟨a, rfl⟩ := (hL.out.below hbr).some_of (k := k) (by simpa using hlt)
      have hla := Lib.hid ((hL.out.below hbr).load (P := Try.prog) (a := a) rfl (k := k) (by simpa using hlt) (ty := 55) Try.underlying55 rfl (by kernel_rfl))
      rw [List.getElem_map] at hla
      obtain ⟨r, q, hs⟩ : ∃ r q, l[k] = (r, q) := ⟨_, _, rfl⟩
      have hsplit : Hid (l.map (fun s => (ptG s t, ptB s t)) = (l.take k).map (fun s => (ptG s t, ptB s t)) ++ (ptG (r, q) t, ptB (r, q) t) :: (l.drop (k + 1)).map (fun s => (ptG s t, ptB s t))) := Lib.hid (by
        rw [← hs, ← List.map_cons (f := fun s => (ptG s t, ptB s t)), ← List.drop_eq_getElem_cons hlt, ← List.map_append, List.take_append_drop])
      have htk : Hid ((l.take (k + 1)).map (fun s => (ptG s t, ptB s t)) = (l.take k).map (fun s => (ptG s t, ptB s t)) ++ [(ptG (r, q) t, ptB (r, q) t)]) := Lib.hid (by
        rw [List.take_succ_eq_append_getElem hlt, List.map_append, hs]; rfl)
      have hof := Lib.hid (fun wx (h : Below w.heap.size w wx) => of_calls p' c' t r q wx (hT.out.below h))
      rw [hs] at hla
      replace hla : Hid ((loadVar 55 (a.add (k * 2))).run Try.prog wr = .ok (.agg #[.int .i64 r, .int .i64 q]) wr) := hla
      replace hJk := Lib.hid hJk
      clear h0 h1 h2 hb
      generalize ptG (r, q) t = G at hsplit htk hof
      generalize ptB (r, q) t = B at hsplit htk hof
      have c2a := cellA (.cells #[.int .i64 r, .int .i64 q] 55) c2
      gi_wp2_with (first | (refine wpListIn_load_v (fun _ => trivial) rfl rfl 55 _ rfl (a.add (k * 2)) rfl _ hla.out ?_))
      have hM1 : Mod (fun _ => False) wr (wr.alloc (.cells #[.int .i64 r, .int .i64 q] 55)) := (Mod.refl _ _).alloc _
      have hb1 := hbr.trans (hM1.below hbr.size (fun _ h => h.elim))
      refine callW (hof.out _ hb1) ?_
      rintro e w1 ⟨rfl, hb2⟩
      have hM2 := hM1.after hb2
      have c1' := hM2.cell_of (fun h => h) c1
      have c2' := hM2.cell_of (fun h => h) c2
      have hb2' := Lib.hid (hb1.trans (hb2.mono hb1.size))
      have hJ2 := hJ.out _ _ _ hJk.out hM2
      obtain ⟨fn, tmps, assign, body, hy, hR⟩ := hY.out _ _ _ _ hsplit.out (fun _ h => h.elim) hJ2
      have HR := Lib.hid hR
      clear hR hM1 hM2 hJ2 hY hJ hJx hb1 hb2 hof hla c1 c2 hbr
      gi_wp2_with fail
      refine ⟨wideN _, HR.out.mono ?_⟩
      rintro e W3 ⟨hT, (⟨rfl, hJ3⟩ | ⟨rfl, hJx3⟩)⟩
      · have c1 := Lib.hid (hT.cell_of (p := ⟨b1, 0, none⟩) (fun h => h.2 (.inr (.inl rfl))) c1')
        have c2 := Lib.hid (hT.cell_of (p := ⟨b2, 0, none⟩) (fun h => h.2 (.inr (.inr rfl))) c2')
        have hb3 := Lib.hid (hb2'.out.trans (hT.below hb2'.out.size (fun k h => Nat.le_of_not_lt fun hlt => h.2 (.inl hlt))))
        clear hT c1' c2' hy hb2'
        gi_wp2
        go_roundw
        case rel => exact ⟨k + 1, by omega, by simp, by rw [htk.out]; exact hJ3, hb3.out, c1.out, c2.out⟩
        case measure => simp [intOf]; omega
      · clear hT c1' c2' hy hb2'
        gi_wp2
        refine bodyPost_ret (results_none rfl _ _ _) rfl ?_
        exact ⟨⟨_, rfl⟩, .inr ⟨_, _, _, hsplit.out, hJx3⟩⟩
    · obtain rfl : k = l.length := by omega
      rw [List.take_length] at hJk
      gi_wp2
      go_end0
      exact ⟨⟨_, rfl⟩, .inl hJk⟩
end Go.Proofs.Ytcdpiemkbefcoaa
