/-
  Layer 11, the program's: Detour.
-/
import Derived.Test.YtcdpiemkbefcoaaWy
namespace Go.Proofs.Ytcdpiemkbefcoaa
open Go.RowKit

theorem run_callPs {ρ : Operand → Value} {o : Oper} {w : World} {x y z : Operand} {u v s : Value} (ho : o.op = .call { callee := .value (.func 34), args := #[x, y, z], argTypes := #[28, 29, 30] }) (hx : ρ x = u) (hy : ρ y = v) (hz : ρ z = s)
    (hf : ρ (.func 34) = .func (.func 34) #[] #[] := by rfl) : (execOp ρ o).run Try.prog w = .ok (.enter 34 #[u, v, s]) w := by
  unfold execOp
  simp only [ho]
  go_simp
theorem run_callWy {ρ : Operand → Value} {o : Oper} {w : World} {x : Operand} {u : Value} (ho : o.op = .call { callee := .value (.func 33), args := #[x], argTypes := #[80] }) (hx : ρ x = u)
    (hf : ρ (.func 33) = .func (.func 33) #[] #[] := by rfl) : (execOp ρ o).run Try.prog w = .ok (.enter 33 #[u]) w := by
  unfold execOp
  simp only [ho]
  go_simp
theorem run_sub64 {ρ : Operand → Value} {o : Oper} {w : World} {x y : Operand} {m n : Int} (ho : o.op = .binOp .sub 3 x y 3) (hx : ρ x = .int .i64 m) (hy : ρ y = .int .i64 n) : (execOp ρ o).run Try.prog w = .ok (.value (.int .i64 (wrap64 (m - n)))) w := by
  unfold execOp
  simp only [ho, hx, hy]
  go_simp
  rw [IntWalk.i64_left]
/-- a row of pairs that lies there -/
def RowAt (W : World) (v : Value) (L : List (Int × Int)) : Prop := ∃ q d, v = .slice q L.length d ∧ Els W q 2 (L.map stV)
theorem RowAt.mod {A B : World} {v : Value} {L : List (Int × Int)} (h : RowAt A v L) (hm : Mod (fun _ => False) A B) : RowAt B v L := by
  obtain ⟨q, d, h1, h2⟩ := h
  exact ⟨q, d, h1, h2.below (hm.below (Nat.le_refl _) (fun _ h => h.elim))⟩
theorem putP_zero {x y cp st en req i j : Int} {l : List (Int × Int)} {t : List Rq} (h : (putP x y cp st en l t req i j).2.2 = 0) :
    l.length ≤ 14 ∧ (putP x y cp st en l t req i j).1.length = l.length + 2 ∧ withP l req i j = some (putP x y cp st en l t req i j).1 ∧ (tmP x y cp st en l t).2.2 = 0 ∧ (putP x y cp st en l t req i j).2.1 = (tmP x y cp st en l t).2.1 ∧ (0 ≤ req ∧ req < t.length ∧ ∀ s ∈ l, s.1 ≠ req) := by
  unfold putP at h ⊢
  by_cases h1 : req < 0 ∨ (t.length : Int) ≤ req ∨ l.any (fun s => s.1 == req) = true
  · rw [if_pos h1] at h; cases h
  rw [if_neg h1] at h ⊢
  by_cases h2 : (tmP x y cp st en l t).2.2 ≠ 0
  · rw [if_pos h2] at h; exact absurd h h2
  rw [if_neg h2] at h ⊢
  by_cases h3 : 16 < l.length + 2
  · rw [if_pos h3] at h; cases h
  rw [if_neg h3] at h ⊢
  cases hw : withP l req i j with
  | none => rw [hw] at h; cases h
  | some m =>
    refine ⟨by omega, ?_, rfl, by simpa using h2, rfl, by omega, by omega, fun s hs e => h1 (.inr (.inr (List.any_eq_true.2 ⟨s, hs, by simp [e]⟩)))⟩
    unfold withP at hw
    by_cases h4 : i < 0 ∨ j < i ∨ (l.length : Int) < j ∨ req < 0 ∨ l.any (fun s => s.1 == req) = true ∨ 16 < l.length + 2
    · rw [if_pos h4] at hw; cases hw
    · rw [if_neg h4] at hw
      cases hw
      exact withL_len l req (by omega) (by omega)
/-- by how much a route's way is longer -/
def detP (x y cp st en : Int) (l : List (Int × Int)) (t : List Rq) (req i j : Int) : Int × Int :=
  if (putP x y cp st en l t req i j).2.2 ≠ 0 then (0, (putP x y cp st en l t req i j).2.2)
  else (wrap64 (wayL (plcL x y (putP x y cp st en l t req i j).1 t) - wayL (plcL x y l t)), 0)

set_option maxHeartbeats 2000000 in
set_option maxRecDepth 100000 in
theorem detour_calls (x y cp st en req i j : Int) (p p' : Option Addr) (c c' : Nat) (l : List (Int × Int)) (t : List Rq) (w : World) (hL : Els w p 2 (l.map stV)) (hc : l.length ≤ c) (hT : Els w p' 10 (t.map rqV)) :
    Calls Try.prog 16 #[.agg #[.int .i64 x, .int .i64 y, .int .i64 cp, .int .i64 st, .int .i64 en], .slice p l.length c, .slice p' t.length c', .int .i64 req, .int .i64 i, .int .i64 j] w fun e w' =>
      e = .returned (.tuple #[.int .i64 (detP x y cp st en l t req i j).1, .int .i64 (detP x y cp st en l t req i j).2]) ∧ Below w.heap.size w w' := by
  have hX : detP x y cp st en l t req i j = if (putP x y cp st en l t req i j).2.2 ≠ 0 then (0, (putP x y cp st en l t req i j).2.2)
    else (wrap64 (wayL (plcL x y (putP x y cp st en l t req i j).1 t) - wayL (plcL x y l t)), 0) := rfl
  have hp := Lib.hid (fun wx (h : Below w.heap.size w wx) => put_calls x y cp st en req i j p p' c c' l t wx (hL.below h) hc (hT.below h))
  have hz := Lib.hid (fun h : (putP x y cp st en l t req i j).2.2 = 0 => (⟨(putP_zero h).1, (putP_zero h).2.1⟩ : l.length ≤ 14 ∧ (putP x y cp st en l t req i j).1.length = l.length + 2))
  have hpl := Lib.hid (fun q d m (hm : List.length m ≤ 1000) wx (h : Below w.heap.size w wx) hE => places_calls x y cp st en q p' d c' m t wx hE hm (hT.below h))
  have hne : ∀ m : List (Int × Int), 0 < (plcL x y m t).length := fun m => by simp [plcL]
  generalize detP x y cp st en l t req i j = X at hX ⊢
  generalize putP x y cp st en l t req i j = U at hX hp hz
  obtain ⟨m, e0, r0⟩ := U
  simp only at hX
  replace hpl := Lib.hid (fun q d k hk wx h hE => hpl.out q d k hk wx h hE)
  generalize hP : (fun m : List (Int × Int) => plcL x y m t) = PL at *
  replace hP : ∀ m, plcL x y m t = PL m := fun m => by rw [← hP]
  simp only [hP] at hpl hX hne
  replace hX := Lib.hid hX
  obtain ⟨V, hV⟩ : ∃ V : Array Value, #[.int .i64 x, .int .i64 y, .int .i64 cp, .int .i64 st, .int .i64 en] = V := ⟨_, rfl⟩
  have hsV : V.size = 5 := by rw [← hV]; rfl
  have hlv := Lib.hid (fun wx (h : Blk wx w.heap.size V 28) => run_load_row' (P := Try.prog) wx w.heap.size 28 V 28 _ h Try.underlying28 rfl (by rw [hsV]; kernel_rfl))
  rw [hV] at hp hpl ⊢
  replace hL := Lib.hid hL
  clear hV hsV hT hP
  go_enter Try.func16, Try.ntmps16
  go_upto_region 1 with fail
  refine wp_world' (fun wx => Blk wx w.heap.size V 28 ∧ Below w.heap.size w wx) ⟨Blk.new _ _ _, new_below _ _⟩ ?_
  rintro w1 ⟨hB, hb⟩
  have hl1 := Lib.hid (hlv.out _ hB)
  replace hB := Lib.hid hB
  go_wp2_with (refine wpList_load_v rfl 28 _ rfl ⟨w.heap.size, 0, none⟩ rfl _ hl1.out ?_)
  refine (hp.out _ hb).mono ?_
  rintro e w2 ⟨⟨q, d, rfl, hd, hE⟩, hb2⟩
  have hM : Mod (fun _ => False) w1 w2 := (Mod.refl _ _).after hb2
  replace hB := Lib.hid (hB.out.mod hM (fun h => h))
  replace hb := hb.trans (hb2.mono hb.size)
  replace hE : Els w2 q 2 (m.map stV) := hE
  clear hM hb2 hl1 hp
  by_cases z0 : r0 = 0
  · subst z0
    obtain ⟨y1, y2⟩ := hz.out rfl
    replace y2 : Hid (m.length = l.length + 2) := Lib.hid y2
    replace hE := Lib.hid hE
    replace hX : Hid (X = (wrap64 (wayL (PL m) - wayL (PL l)), 0)) := Lib.hid (by rw [hX.out, if_neg (by simp)])
    clear hz
    go_upto_region 4 with fail
    refine wp_region_tell (X := Value × Value) (undef, undef) [3, 4, 8, 9] (fun x => [(31, .agg V), (32, .slice q m.length d), (33, .slice p' t.length c'), (35, .int .i64 (wayL (PL m))), (36, .agg V), (37, .slice p l.length c), (38, .slice p' t.length c'), (40, .int .i64 (wayL (PL l))),
        (41, .int .i64 (wrap64 (wayL (PL m) - wayL (PL l)))), (12, .int .i64 (wrap64 (wayL (PL m) - wayL (PL l)))), (13, .int .i64 0)] ++ ([(34, x.1)] ++ [(39, x.2)]))
      (fun x k W' => Mod (fun _ => False) w2 W' ∧ (1 ≤ k → RowAt W' x.1 (PL m)) ∧ (3 ≤ k → RowAt W' x.2 (PL l)))
      (by kernel_rfl) (by kernel_rfl) (by kernel_rfl) (by kernel_rfl) (by kernel_rfl) (fun x => by kernel_rfl) ⟨(Mod.refl _ _).drew, fun h => by omega, fun h => by omega⟩ ?_ ?_
    · intro aF hAF
      have E6 : ∀ x, (aF x).eval (.tmp 6) = .pointer (some ⟨w.heap.size, 0, none⟩) := by intro x; rw [hAF]; kernel_rfl
      have E14 : ∀ x, (aF x).eval (.tmp 14) = .slice q m.length d := by intro x; rw [hAF]; kernel_rfl
      have E2 : ∀ x, (aF x).eval (.tmp 2) = .slice p' t.length c' := by intro x; rw [hAF]; kernel_rfl
      have E1 : ∀ x, (aF x).eval (.tmp 1) = .slice p l.length c := by intro x; rw [hAF]; kernel_rfl
      have T31 : ∀ x, (aF x).tmps[31]? = some (.agg V) := by intro x; rw [hAF]; kernel_rfl
      have E31 : ∀ x, (aF x).eval (.tmp 31) = .agg V := by intro x; rw [hAF]; kernel_rfl
      have T32 : ∀ x, (aF x).tmps[32]? = some (.slice q m.length d) := by intro x; rw [hAF]; kernel_rfl
      have E32 : ∀ x, (aF x).eval (.tmp 32) = .slice q m.length d := by intro x; rw [hAF]; kernel_rfl
      have T33 : ∀ x, (aF x).tmps[33]? = some (.slice p' t.length c') := by intro x; rw [hAF]; kernel_rfl
      have E33 : ∀ x, (aF x).eval (.tmp 33) = .slice p' t.length c' := by intro x; rw [hAF]; kernel_rfl
      have T34 : ∀ x, (aF x).tmps[34]? = some (x.1) := by intro x; rw [hAF]; kernel_rfl
      have E34 : ∀ x, (aF x).eval (.tmp 34) = x.1 := by intro x; rw [hAF]; kernel_rfl
      have T35 : ∀ x, (aF x).tmps[35]? = some (.int .i64 (wayL (PL m))) := by intro x; rw [hAF]; kernel_rfl
      have E35 : ∀ x, (aF x).eval (.tmp 35) = .int .i64 (wayL (PL m)) := by intro x; rw [hAF]; kernel_rfl
      have T36 : ∀ x, (aF x).tmps[36]? = some (.agg V) := by intro x; rw [hAF]; kernel_rfl
      have E36 : ∀ x, (aF x).eval (.tmp 36) = .agg V := by intro x; rw [hAF]; kernel_rfl
      have T37 : ∀ x, (aF x).tmps[37]? = some (.slice p l.length c) := by intro x; rw [hAF]; kernel_rfl
      have E37 : ∀ x, (aF x).eval (.tmp 37) = .slice p l.length c := by intro x; rw [hAF]; kernel_rfl
      have T38 : ∀ x, (aF x).tmps[38]? = some (.slice p' t.length c') := by intro x; rw [hAF]; kernel_rfl
      have E38 : ∀ x, (aF x).eval (.tmp 38) = .slice p' t.length c' := by intro x; rw [hAF]; kernel_rfl
      have T39 : ∀ x, (aF x).tmps[39]? = some (x.2) := by intro x; rw [hAF]; kernel_rfl
      have E39 : ∀ x, (aF x).eval (.tmp 39) = x.2 := by intro x; rw [hAF]; kernel_rfl
      have T40 : ∀ x, (aF x).tmps[40]? = some (.int .i64 (wayL (PL l))) := by intro x; rw [hAF]; kernel_rfl
      have E40 : ∀ x, (aF x).eval (.tmp 40) = .int .i64 (wayL (PL l)) := by intro x; rw [hAF]; kernel_rfl
      have T41 : ∀ x, (aF x).tmps[41]? = some (.int .i64 (wrap64 (wayL (PL m) - wayL (PL l)))) := by intro x; rw [hAF]; kernel_rfl
      have E41 : ∀ x, (aF x).eval (.tmp 41) = .int .i64 (wrap64 (wayL (PL m) - wayL (PL l))) := by intro x; rw [hAF]; kernel_rfl
      have T12 : ∀ x, (aF x).tmps[12]? = some (.int .i64 (wrap64 (wayL (PL m) - wayL (PL l)))) := by intro x; rw [hAF]; kernel_rfl
      have T13 : ∀ x, (aF x).tmps[13]? = some (.int .i64 0) := by intro x; rw [hAF]; kernel_rfl
      replace hAF := Lib.hid hAF
      refine ⟨?_, ?_, ?_, ?_, ?_, ?_, ?_, ?_, ?_, ?_, ?_, ?_, ?_, trivial⟩
      · exact opOk2_quiet _ (by intro x d hd _; cases hd; exact T31 x) (fun _ => rfl) (by decide) fun x k W' hc => sv (run_load1 rfl (E6 x) (hlv.out _ (hB.out.mod hc.1 (fun h => h)))) hc
      · exact opOk2_quiet _ (by intro x d hd _; cases hd; exact T32 x) (fun _ => rfl) (by decide) fun x k W' hc => sv (run_mov rfl (E14 x)) hc
      · exact opOk2_quiet _ (by intro x d hd _; cases hd; exact T33 x) (fun _ => rfl) (by decide) fun x k W' hc => sv (run_mov rfl (E2 x)) hc
      · exact opOk2_chain 0 rfl rfl (by decide) fun x W' hc => by
          refine sk (run_callPs rfl (E31 x) (E32 x) (E33 x)) ((hpl.out q d m (by rw [y2.out]; omega) W' (hb.trans (hc.1.below hb.size (fun _ h => h.elim))) (hE.out.below (hc.1.below (Nat.le_refl _) (fun _ h => h.elim)))).mono ?_)
          rintro e w'' ⟨⟨q2, d2, rfl, hE2⟩, hb'⟩
          have hm' := (Mod.refl (fun _ => False) W').after hb'
          exact ⟨_, rfl, (.slice q2 (PL m).length d2, x.2), (by rw [hAF.out]; exact agree_any (by kernel_rfl) (by kernel_rfl)), (by intro d hd _; cases hd; exact T34 _), hc.1.trans hm', fun _ => ⟨q2, d2, rfl, hE2⟩, fun h => by omega⟩
      · exact opOk2_chain 1 rfl rfl (by decide) fun x W' hc => by
          obtain ⟨q2, d2, hx2, hE2⟩ := hc.2.1 (by omega)
          refine sk (run_callWy rfl ((E34 x).trans hx2)) ((way_calls q2 d2 (PL m) W' hE2 (hne m)).mono ?_)
          rintro e w'' ⟨rfl, hb'⟩
          have hm' := (Mod.refl (fun _ => False) W').after hb'
          exact ⟨_, rfl, x, agree_same _ _, (by intro d hd _; cases hd; exact T35 _), hc.1.trans hm', fun _ => (hc.2.1 (by omega)).mod hm', fun h => by omega⟩
      · exact opOk2_quiet _ (by intro x d hd _; cases hd; exact T36 x) (fun _ => rfl) (by decide) fun x k W' hc => sv (run_load1 rfl (E6 x) (hlv.out _ (hB.out.mod hc.1 (fun h => h)))) hc
      · exact opOk2_quiet _ (by intro x d hd _; cases hd; exact T37 x) (fun _ => rfl) (by decide) fun x k W' hc => sv (run_mov rfl (E1 x)) hc
      · exact opOk2_quiet _ (by intro x d hd _; cases hd; exact T38 x) (fun _ => rfl) (by decide) fun x k W' hc => sv (run_mov rfl (E2 x)) hc
      · exact opOk2_chain 2 rfl rfl (by decide) fun x W' hc => by
          refine sk (run_callPs rfl (E36 x) (E37 x) (E38 x)) ((hpl.out p c l (by omega) W' (hb.trans (hc.1.below hb.size (fun _ h => h.elim))) (hL.out.below (hb.trans (hc.1.below hb.size (fun _ h => h.elim))))).mono ?_)
          rintro e w'' ⟨⟨q2, d2, rfl, hE2⟩, hb'⟩
          have hm' := (Mod.refl (fun _ => False) W').after hb'
          exact ⟨_, rfl, (x.1, .slice q2 (PL l).length d2), (by rw [hAF.out]; exact agree_any2 (by kernel_rfl) (by kernel_rfl)), (by intro d hd _; cases hd; exact T39 _), hc.1.trans hm', fun _ => (hc.2.1 (by omega)).mod hm', fun _ => ⟨q2, d2, rfl, hE2⟩⟩
      · exact opOk2_chain 3 rfl rfl (by decide) fun x W' hc => by
          obtain ⟨q2, d2, hx2, hE2⟩ := hc.2.2 (by omega)
          refine sk (run_callWy rfl ((E39 x).trans hx2)) ((way_calls q2 d2 (PL l) W' hE2 (hne l)).mono ?_)
          rintro e w'' ⟨rfl, hb'⟩
          have hm' := (Mod.refl (fun _ => False) W').after hb'
          exact ⟨_, rfl, x, agree_same _ _, (by intro d hd _; cases hd; exact T40 _), hc.1.trans hm', fun _ => (hc.2.1 (by omega)).mod hm', fun _ => (hc.2.2 (by omega)).mod hm'⟩
      · exact opOk2_quiet _ (by intro x d hd _; cases hd; exact T41 x) (fun _ => rfl) (by decide) fun x k W' hc => sv (run_sub64 rfl (E35 x) (E40 x)) hc
      · exact opOk2_quiet _ (by intro x d hd _; cases hd; exact T12 x) (fun _ => rfl) (by decide) fun x k W' hc => sv (run_asg rfl (E41 x)) hc
      · exact opOk2_quiet _ (by intro x d hd _; cases hd; exact T13 x) (fun _ => rfl) (by decide) fun x k W' hc => sv (run_asg rfl rfl) hc
    · intro x w3 hc
      simp only [putAll, List.foldl_cons, List.foldl_nil, List.cons_append, List.nil_append, Act.put, List.setIfInBounds_toArray, List.set_cons_succ, List.set_cons_zero]
      have hb3 := hb.trans (hc.1.below hb.size (fun _ h => h.elim))
      obtain rfl := hX.out
      clear hX hc hB hE hL hpl hlv
      go_wp2_with fail
      go_ret2
      exact ⟨rfl, hb3⟩
  · obtain rfl : X = (0, r0) := by rw [hX.out, if_pos z0]
    have g1 : (r0 == 0) = false := beq_eq_false_iff_ne.2 z0
    have g2 : (r0 != 0) = true := by rw [bne, g1]; rfl
    clear hX hE hB hlv hpl hL
    go_wp2_with fail
    go_ret2
    exact ⟨rfl, hb⟩
end Go.Proofs.Ytcdpiemkbefcoaa
