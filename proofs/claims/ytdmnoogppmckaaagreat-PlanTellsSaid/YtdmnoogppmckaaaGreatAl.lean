/-
  Layer 13: alike: a plan tells what the document's plan tells.
-/
import Derived.Test.YtdmnoogppmckaaaGreatRw
namespace Go.Proofs.YtdmnoogppmckaaaGreat
open Go.RowKit

theorem wanted_ofR {ops : Array Oper} {o : Oper} {ts : Array Value} {j : Nat} {b : Bool} {d : Nat} (hg : o.guard = some (j, b)) (hd : dstOf ops j = some d) (hv : ts[d]? = some (.bool b)) : Region.wanted o (yielded ops ts) = true := by
  unfold Region.wanted yielded
  unfold dstOf at hd
  simp only [hg, hd, Option.bind_some, hv, beq_self_eq_true]
theorem opOk3_loudG {P : Program} {ops : Array Oper} {md : Region.Mode} {X : Type} {aF : X → Act} {Cl : X → (Nat → Bool) → World → Prop} {i : Nat} {o : Oper} (hw : ∀ x, Region.wanted o (yielded ops (aF x).tmps) = true)
    (h : ∀ x d w, (∀ r, waits md ops i r = true → d r = true) → (∀ c, (lateOf md ops i).contains c = true → d c = false) → Cl x d w →
      upon2 P (fun u w' => ∃ x', Agree ops (lateOf md ops i) (aF x) (aF x') ∧ (∀ t, o.dst = some t → t < (aF x').tmps.size → (aF x').tmps[t]? = some u) ∧ Cl x' (upd d i) w') ((execOp (aF x).eval o).run P w)) : OpOk3 P md ops aF Cl i o := fun x d w hd hn hC => by
  rw [if_pos (hw x)]
  exact h x d w hd hn hC
section
variable {ρ : Operand → Value} {o : Oper} {w : World} {x y z : Operand}
theorem run_callRo {a : Value} (ho : o.op = .call { callee := .value (.func 16), args := #[x], argTypes := #[24] }) (hx : ρ x = a)
    (hf : ρ (.func 16) = .func (.func 16) #[] #[] := by rfl) : (execOp ρ o).run Tryz.prog w = .ok (.enter 16 #[a]) w := by
  unfold execOp
  simp only [ho]
  go_simp
theorem run_callAl {a : Value} (ho : o.op = .call { callee := .value (.func 18), args := #[x], argTypes := #[24] }) (hx : ρ x = a)
    (hf : ρ (.func 18) = .func (.func 18) #[] #[] := by rfl) : (execOp ρ o).run Tryz.prog w = .ok (.enter 18 #[a]) w := by
  unfold execOp
  simp only [ho]
  go_simp
theorem run_callRAl {a : Value} (ho : o.op = .call { callee := .value (.func 35), args := #[x], argTypes := #[28] }) (hx : ρ x = a)
    (hf : ρ (.func 35) = .func (.func 35) #[] #[] := by rfl) : (execOp ρ o).run Tryz.prog w = .ok (.enter 35 #[a]) w := by
  unfold execOp
  simp only [ho]
  go_simp
theorem run_callTo {a : Value} (ho : o.op = .call { callee := .value (.func 19), args := #[x], argTypes := #[24] }) (hx : ρ x = a)
    (hf : ρ (.func 19) = .func (.func 19) #[] #[] := by rfl) : (execOp ρ o).run Tryz.prog w = .ok (.enter 19 #[a]) w := by
  unfold execOp
  simp only [ho]
  go_simp
theorem run_callRTo {a : Value} (ho : o.op = .call { callee := .value (.func 36), args := #[x], argTypes := #[28] }) (hx : ρ x = a)
    (hf : ρ (.func 36) = .func (.func 36) #[] #[] := by rfl) : (execOp ρ o).run Tryz.prog w = .ok (.enter 36 #[a]) w := by
  unfold execOp
  simp only [ho]
  go_simp
theorem run_callS13 {a b : Value} (ho : o.op = .call { callee := .value (.func 20), args := #[x, y], argTypes := #[45, 45] }) (hx : ρ x = a) (hy : ρ y = b)
    (hf : ρ (.func 20) = .func (.func 20) #[] #[] := by rfl) : (execOp ρ o).run Tryz.prog w = .ok (.enter 20 #[a, b]) w := by
  unfold execOp
  simp only [ho]
  go_simp
theorem run_callI13 {a b : Value} (ho : o.op = .call { callee := .value (.func 27), args := #[x, y], argTypes := #[55, 55] }) (hx : ρ x = a) (hy : ρ y = b)
    (hf : ρ (.func 27) = .func (.func 27) #[] #[] := by rfl) : (execOp ρ o).run Tryz.prog w = .ok (.enter 27 #[a, b]) w := by
  unfold execOp
  simp only [ho]
  go_simp
end
section
variable {ρ : Operand → Value} {o : Oper} {w : World} {x y : Operand}
theorem run_pickR {c a b : Operand} {v : Value} (ho : o.op = .pick c a b) (hc : ρ c = .bool false) (hb : ρ b = v) : (execOp ρ o).run Tryz.prog w = .ok (.value v) w := by
  unfold execOp
  simp only [ho, hc, hb]
  go_simp
theorem run_neqII {n : Int} (ho : o.op = .binOp .neq 3 x y 3) (hx : ρ x = .int .i64 n) (hy : ρ y = .int .i64 n) : (execOp ρ o).run Tryz.prog w = .ok (.value (.bool false)) w := by
  unfold execOp
  simp only [ho, hx, hy]
  go_simp
end
structure AlC (w : World) (rows : List Rou2) (Q : List Int) (x : (Option Addr × Nat) × (Option Addr × Nat) × Option Addr × Nat) (d1 d10 d12 : Bool) (W : World) : Prop where
  m : Mod (fun _ => False) w W
  r : d1 = true → RsAt W w.heap.size x.1.1 rows
  p : d10 = true → Els W x.2.1.1 1 (Q.map inV)
  q : d12 = true → Els W x.2.2.1 1 (Q.map inV)
section
variable {w W W' : World} {rows : List Rou2} {Q : List Int} {x : (Option Addr × Nat) × (Option Addr × Nat) × Option Addr × Nat} {d1 d10 d12 : Bool}
theorem AlC.start (h : Mod (fun _ => False) w W) : AlC w rows Q x false false false W := ⟨h, (fun h => by cases h), (fun h => by cases h), (fun h => by cases h)⟩
theorem AlC.below (h : AlC w rows Q x d1 d10 d12 W) (hb : Below W.heap.size W W') : AlC w rows Q x d1 d10 d12 W' :=
  ⟨h.m.after hb, fun k => (h.r k).below hb, fun k => (h.p k).below hb, fun k => (h.q k).below hb⟩
theorem AlC.op1 {q : Option Addr} {dd : Nat} (h : AlC w rows Q x false d10 d12 W) (hb : Below W.heap.size W W') (hR : RsAt W' W.heap.size q rows) : AlC w rows Q ((q, dd), x.2) true d10 d12 W' := by
  have h2 := h.below hb
  refine ⟨h2.m, fun _ => ?_, h2.p, h2.q⟩
  obtain ⟨qs, a1, a2, a3⟩ := hR
  exact ⟨qs, a1, fun a ha => Nat.le_trans h.m.size (a2 a ha), fun i hi => by
    obtain ⟨b1, b2, b3⟩ := a3 i hi
    exact ⟨b1, b2, fun h0 => by obtain ⟨g, C, e1, e2, e3⟩ := b3 h0; exact ⟨g, C, e1, Nat.le_trans h.m.size e2, e3⟩⟩⟩
theorem AlC.op10 {q : Option Addr} {dd : Nat} (h : AlC w rows Q x d1 false d12 W) (hb : Below W.heap.size W W') (hR : Els W' q 1 (Q.map inV)) : AlC w rows Q (x.1, (q, dd), x.2.2) d1 true d12 W' := by
  have h2 := h.below hb
  exact ⟨h2.m, h2.r, fun _ => hR, h2.q⟩
theorem AlC.op12 {q : Option Addr} {dd : Nat} (h : AlC w rows Q x d1 d10 false W) (hb : Below W.heap.size W W') (hR : Els W' q 1 (Q.map inV)) : AlC w rows Q (x.1, x.2.1, q, dd) d1 d10 true W' := by
  have h2 := h.below hb
  exact ⟨h2.m, h2.r, h2.p, fun _ => hR⟩
end
set_option maxHeartbeats 4000000 in
set_option maxRecDepth 100000 in
theorem alike_calls {B b gT gM N : Nat} {w : World} {fl : List Ve} {rows : List Rou2} {t : List Rq} {F : Nat → Prop} {b2 gR : Nat} (hP : PSt B w b gT gM N fl rows t) (hN : N ≤ 100000) (hR : RplAt w F b2 gR fl rows t) :
    Calls Tryz.prog 11 #[.pointer (some ⟨b, 0, none⟩), .pointer (some ⟨b2, 0, none⟩)] w fun e w' => e = .returned (.bool true) ∧ Below w.heap.size w w' := by
  have hr16 := hP.row
  have hfl := hP.ok.many
  have hrl := hP.ok.len
  have htl := hP.tl
  have hbl : ∀ W, Mod (fun _ => False) w W → Below w.heap.size w W := fun W h => h.below (Nat.le_refl _) (fun _ h => h.elim)
  have hro := Lib.hid (fun W (h : Mod (fun _ => False) w W) => (hP.below (hbl W h)).routes)
  have hal := Lib.hid (fun W (h : Mod (fun _ => False) w W) => (hP.below (hbl W h)).all hN)
  have hto := Lib.hid (fun W (h : Mod (fun _ => False) w W) => (hP.below (hbl W h)).total)
  have hha := Lib.hid (fun W (h : Mod (fun _ => False) w W) (req : Int) (hq : wf64 req) => (hP.below (hbl W h)).has req hq)
  have hwh := Lib.hid (fun W (h : Mod (fun _ => False) w W) (req : Int) (hq : wf64 req) => (hP.below (hbl W h)).wher req hq)
  have hra := Lib.hid (fun W (h : Mod (fun _ => False) w W) => rall_calls (hR.below (hbl W h)) (by omega) (fun i => by have := hr16 i; omega) htl)
  have hrt := Lib.hid (fun W (h : Mod (fun _ => False) w W) => rtotal_calls hP.ok (hR.below (hbl W h)))
  have hrw := Lib.hid (fun W (h : Mod (fun _ => False) w W) (req : Int) => rwhere_calls (hR.below (hbl W h)) (by omega) (fun i => by have := hr16 i; omega) req)
  obtain ⟨qF, dF, qT, dT, qs, hI⟩ := hR
  have hk2 := Lib.hid (fun W (h : Mod (fun _ => False) w W) => run_cellRR ((hI.box.mod h (fun h => h)).cell (i := 2) rfl))
  have hk1 := Lib.hid (fun W (h : Mod (fun _ => False) w W) => (hI.box.mod h (fun h => h)).cell (i := 1) rfl)
  obtain ⟨n, hn⟩ : ∃ n, fl.length = n := ⟨_, rfl⟩
  rw [hn] at hrl hfl hk2 hk1
  have hsm := Lib.hid (fun W (h : Mod (fun _ => False) w W) (q : Option Addr) (c : Nat) (hX : RsAt W w.heap.size q rows) => (by
    obtain ⟨qa, a1, _, a3⟩ := hX
    have := rrows_calls q (some ⟨gR, 0, none⟩) c n rows rows qa qs W a1 (els_modP hI.rws h (fun _ _ _ h => h)) (by omega) (fun i hi => (a3 i hi).1) (fun i _ => els_modP (hI.row i) h (fun _ _ _ h => h))
    rw [decide_eq_true rfl, hrl] at this
    exact this : Calls Tryz.prog 20 #[.slice q n c, .slice (some ⟨gR, 0, none⟩) n n] W fun e w' => e = .returned (.bool true) ∧ Below W.heap.size W w'))
  unfold AqPost at hal hra
  obtain ⟨Q, hQ⟩ : ∃ Q, allQ rows t = Q := ⟨_, rfl⟩
  obtain ⟨tot, htot⟩ : ∃ tot, totP fl rows t = tot := ⟨_, rfl⟩
  obtain ⟨T, hT⟩ : ∃ T, t.length = T := ⟨_, rfl⟩
  rw [hQ] at hal hra
  rw [htot] at hto hrt
  rw [hT] at htl hk1
  have hrl2 := Lib.hid hrl
  clear hI hP hQ htot hr16 hT hn hbl hrl
  go_enter Tryz.func11, Tryz.ntmps11
  go_upto_region 1 with fail
  refine wp_region_rove (X := (Option Addr × Nat) × (Option Addr × Nat) × Option Addr × Nat) ((none, 0), (none, 0), none, 0) (fun x => [(6, .pointer (some ⟨b, 0, none⟩)), (8, .pointer (some ⟨b2, 0, none⟩)), (9, .pointer (some ⟨b2, 0, none⟩)), (10, .pointer (some ⟨b2, 2, none⟩)), (11, .slice (some ⟨gR, 0, none⟩) n n), (12, .bool true), (13, .bool false), (14, .bool false), (15, .pointer (some ⟨b, 0, none⟩)), (17, .pointer (some ⟨b2, 0, none⟩)), (19, .bool true), (20, .bool false), (21, .bool false), (22, .bool false), (23, .pointer (some ⟨b, 0, none⟩)), (24, .int .i64 tot), (25, .pointer (some ⟨b2, 0, none⟩)), (26, .int .i64 tot), (27, .bool false), (28, .bool false)] ++ [(7, .slice x.1.1 n x.1.2), (16, .slice x.2.1.1 Q.length x.2.1.2), (18, .slice x.2.2.1 Q.length x.2.2.2)])
    (fun x d W' => AlC w rows Q x (d 1) (d 10) (d 12) W') (by kernel_rfl) (by kernel_rfl) (by kernel_rfl) (by kernel_rfl) (fun x => by kernel_rfl)
    (AlC.start (Mod.refl _ _).drew) ?_ ?_
  · intro aF hAF
    have E0 : ∀ x, (aF x).eval (.tmp 0) = .pointer (some ⟨b, 0, none⟩) := by intro x; rw [hAF]; kernel_rfl
    have E1 : ∀ x, (aF x).eval (.tmp 1) = .pointer (some ⟨b2, 0, none⟩) := by intro x; rw [hAF]; kernel_rfl
    have T6 : ∀ x, (aF x).tmps[6]? = some (.pointer (some ⟨b, 0, none⟩)) := by intro x; rw [hAF]; kernel_rfl
    have E6 : ∀ x, (aF x).eval (.tmp 6) = .pointer (some ⟨b, 0, none⟩) := by intro x; rw [hAF]; kernel_rfl
    have T8 : ∀ x, (aF x).tmps[8]? = some (.pointer (some ⟨b2, 0, none⟩)) := by intro x; rw [hAF]; kernel_rfl
    have E8 : ∀ x, (aF x).eval (.tmp 8) = .pointer (some ⟨b2, 0, none⟩) := by intro x; rw [hAF]; kernel_rfl
    have T9 : ∀ x, (aF x).tmps[9]? = some (.pointer (some ⟨b2, 0, none⟩)) := by intro x; rw [hAF]; kernel_rfl
    have E9 : ∀ x, (aF x).eval (.tmp 9) = .pointer (some ⟨b2, 0, none⟩) := by intro x; rw [hAF]; kernel_rfl
    have T10 : ∀ x, (aF x).tmps[10]? = some (.pointer (some ⟨b2, 2, none⟩)) := by intro x; rw [hAF]; kernel_rfl
    have E10 : ∀ x, (aF x).eval (.tmp 10) = .pointer (some ⟨b2, 2, none⟩) := by intro x; rw [hAF]; kernel_rfl
    have T11 : ∀ x, (aF x).tmps[11]? = some (.slice (some ⟨gR, 0, none⟩) n n) := by intro x; rw [hAF]; kernel_rfl
    have E11 : ∀ x, (aF x).eval (.tmp 11) = .slice (some ⟨gR, 0, none⟩) n n := by intro x; rw [hAF]; kernel_rfl
    have T12 : ∀ x, (aF x).tmps[12]? = some (.bool true) := by intro x; rw [hAF]; kernel_rfl
    have E12 : ∀ x, (aF x).eval (.tmp 12) = .bool true := by intro x; rw [hAF]; kernel_rfl
    have T13 : ∀ x, (aF x).tmps[13]? = some (.bool false) := by intro x; rw [hAF]; kernel_rfl
    have E13 : ∀ x, (aF x).eval (.tmp 13) = .bool false := by intro x; rw [hAF]; kernel_rfl
    have T14 : ∀ x, (aF x).tmps[14]? = some (.bool false) := by intro x; rw [hAF]; kernel_rfl
    have E14 : ∀ x, (aF x).eval (.tmp 14) = .bool false := by intro x; rw [hAF]; kernel_rfl
    have T15 : ∀ x, (aF x).tmps[15]? = some (.pointer (some ⟨b, 0, none⟩)) := by intro x; rw [hAF]; kernel_rfl
    have E15 : ∀ x, (aF x).eval (.tmp 15) = .pointer (some ⟨b, 0, none⟩) := by intro x; rw [hAF]; kernel_rfl
    have T17 : ∀ x, (aF x).tmps[17]? = some (.pointer (some ⟨b2, 0, none⟩)) := by intro x; rw [hAF]; kernel_rfl
    have E17 : ∀ x, (aF x).eval (.tmp 17) = .pointer (some ⟨b2, 0, none⟩) := by intro x; rw [hAF]; kernel_rfl
    have T19 : ∀ x, (aF x).tmps[19]? = some (.bool true) := by intro x; rw [hAF]; kernel_rfl
    have E19 : ∀ x, (aF x).eval (.tmp 19) = .bool true := by intro x; rw [hAF]; kernel_rfl
    have T20 : ∀ x, (aF x).tmps[20]? = some (.bool false) := by intro x; rw [hAF]; kernel_rfl
    have E20 : ∀ x, (aF x).eval (.tmp 20) = .bool false := by intro x; rw [hAF]; kernel_rfl
    have T21 : ∀ x, (aF x).tmps[21]? = some (.bool false) := by intro x; rw [hAF]; kernel_rfl
    have E21 : ∀ x, (aF x).eval (.tmp 21) = .bool false := by intro x; rw [hAF]; kernel_rfl
    have T22 : ∀ x, (aF x).tmps[22]? = some (.bool false) := by intro x; rw [hAF]; kernel_rfl
    have E22 : ∀ x, (aF x).eval (.tmp 22) = .bool false := by intro x; rw [hAF]; kernel_rfl
    have T23 : ∀ x, (aF x).tmps[23]? = some (.pointer (some ⟨b, 0, none⟩)) := by intro x; rw [hAF]; kernel_rfl
    have E23 : ∀ x, (aF x).eval (.tmp 23) = .pointer (some ⟨b, 0, none⟩) := by intro x; rw [hAF]; kernel_rfl
    have T24 : ∀ x, (aF x).tmps[24]? = some (.int .i64 tot) := by intro x; rw [hAF]; kernel_rfl
    have E24 : ∀ x, (aF x).eval (.tmp 24) = .int .i64 tot := by intro x; rw [hAF]; kernel_rfl
    have T25 : ∀ x, (aF x).tmps[25]? = some (.pointer (some ⟨b2, 0, none⟩)) := by intro x; rw [hAF]; kernel_rfl
    have E25 : ∀ x, (aF x).eval (.tmp 25) = .pointer (some ⟨b2, 0, none⟩) := by intro x; rw [hAF]; kernel_rfl
    have T26 : ∀ x, (aF x).tmps[26]? = some (.int .i64 tot) := by intro x; rw [hAF]; kernel_rfl
    have E26 : ∀ x, (aF x).eval (.tmp 26) = .int .i64 tot := by intro x; rw [hAF]; kernel_rfl
    have T27 : ∀ x, (aF x).tmps[27]? = some (.bool false) := by intro x; rw [hAF]; kernel_rfl
    have E27 : ∀ x, (aF x).eval (.tmp 27) = .bool false := by intro x; rw [hAF]; kernel_rfl
    have T28 : ∀ x, (aF x).tmps[28]? = some (.bool false) := by intro x; rw [hAF]; kernel_rfl
    have E28 : ∀ x, (aF x).eval (.tmp 28) = .bool false := by intro x; rw [hAF]; kernel_rfl
    have T7 : ∀ x, (aF x).tmps[7]? = some (.slice x.1.1 n x.1.2) := by intro x; rw [hAF]; kernel_rfl
    have E7 : ∀ x, (aF x).eval (.tmp 7) = .slice x.1.1 n x.1.2 := by intro x; rw [hAF]; kernel_rfl
    have T16 : ∀ x, (aF x).tmps[16]? = some (.slice x.2.1.1 Q.length x.2.1.2) := by intro x; rw [hAF]; kernel_rfl
    have E16 : ∀ x, (aF x).eval (.tmp 16) = .slice x.2.1.1 Q.length x.2.1.2 := by intro x; rw [hAF]; kernel_rfl
    have T18 : ∀ x, (aF x).tmps[18]? = some (.slice x.2.2.1 Q.length x.2.2.2) := by intro x; rw [hAF]; kernel_rfl
    have E18 : ∀ x, (aF x).eval (.tmp 18) = .slice x.2.2.1 Q.length x.2.2.2 := by intro x; rw [hAF]; kernel_rfl
    replace hAF := Lib.hid hAF
    refine ⟨?_, ?_, ?_, ?_, ?_, ?_, ?_, ?_, ?_, ?_, ?_, ?_, ?_, ?_, ?_, ?_, ?_, ?_, ?_, ?_, ?_, ?_, ?_, trivial⟩
    · exact opOk3_quiet _ (by intro x t hd _; cases hd; exact T6 x) (fun _ => rfl) fun x d w' hd hc => sv (run_mov rfl (E0 x)) hc
    · exact opOk3_loudG (fun _ => rfl) fun x d w' hd hn hc => by
          have nf : d 1 = false := hn 1 (by kernel_rfl)
          rw [nf] at hc
          refine sk (run_callRo rfl (E6 x)) ((hro.out w' hc.m).mono ?_)
          intro e w'' hR
          obtain ⟨hb, q, dd, he, _, hRs⟩ := hR.at_
          rw [hrl2.out] at he
          subst he
          refine ⟨_, rfl, ((q, dd), x.2), (by rw [hAF.out]; exact agree_set 20 (7, .slice x.1.1 n x.1.2) rfl (by kernel_rfl)), (by intro t hd _; cases hd; exact T7 _), ?_⟩
          exact hc.op1 hb hRs
    · exact opOk3_quiet _ (by intro x t hd _; cases hd; exact T8 x) (fun _ => rfl) fun x d w' hd hc => sv (run_mov rfl (E1 x)) hc
    · exact opOk3_quiet _ (by intro x t hd _; cases hd; exact T9 x) (fun _ => rfl) fun x d w' hd hc => sv (run_nilP rfl (E8 x)) hc
    · exact opOk3_quiet _ (by intro x t hd _; cases hd; exact T10 x) (fun _ => rfl) fun x d w' hd hc => sv (run_fldT rfl (E9 x) (fun _ => by kernel_rfl)) hc
    · exact opOk3_quiet _ (by intro x t hd _; cases hd; exact T11 x) (fun _ => rfl) fun x d w' hd hc => sv (run_load1 rfl (E10 x) (hk2.out w' hc.m)) hc
    · exact opOk3_quiet _ (by intro x t hd _; cases hd; exact T12 x) (fun _ => rfl) fun x d w' hd hc => by
          have n : d 1 = true := hd 1 (by kernel_rfl)
          rw [n] at hc
          refine sc (run_callS13 rfl (E7 x) (E11 x)) ((hsm.out w' hc.m _ _ (hc.r rfl)).mono (fun e w'' hq => ⟨hq.1, ?_⟩))
          show AlC w rows Q x (d 1) (d 10) (d 12) w''
          rw [n]
          exact hc.below hq.2
    · exact opOk3_quiet _ (by intro x t hd _; cases hd; exact T13 x) (fun _ => rfl) fun x d w' hd hc => sv (run_notS rfl (E12 x)) hc
    · exact opOk3_quiet _ (by intro x t hd _; cases hd; exact T14 x) (fun _ => rfl) fun x d w' hd hc => sv (run_mov rfl (E13 x)) hc
    · exact opOk3_quiet _ (by intro x t hd _; cases hd; exact T15 x) (fun x => wanted_ofR rfl rfl (T14 x)) fun x d w' hd hc => sv (run_mov rfl (E0 x)) hc
    · exact opOk3_loudG (fun x => wanted_ofR rfl rfl (T14 x)) fun x d w' hd hn hc => by
          have nf : d 10 = false := hn 10 (by kernel_rfl)
          rw [nf] at hc
          refine sk (run_callAl rfl (E15 x)) ((hal.out w' hc.m).mono ?_)
          rintro e w'' ⟨⟨q, dd, rfl, _, hA, _⟩, hb⟩
          refine ⟨_, rfl, (x.1, (q, dd), x.2.2), (by rw [hAF.out]; exact agree_set 21 (16, .slice x.2.1.1 Q.length x.2.1.2) rfl (by kernel_rfl)), (by intro t hd _; cases hd; exact T16 _), ?_⟩
          exact hc.op10 hb hA
    · exact opOk3_quiet _ (by intro x t hd _; cases hd; exact T17 x) (fun x => wanted_ofR rfl rfl (T14 x)) fun x d w' hd hc => sv (run_mov rfl (E1 x)) hc
    · exact opOk3_loudG (fun x => wanted_ofR rfl rfl (T14 x)) fun x d w' hd hn hc => by
          have nf : d 12 = false := hn 12 (by kernel_rfl)
          rw [nf] at hc
          refine sk (run_callRAl rfl (E17 x)) ((hra.out w' hc.m).mono ?_)
          rintro e w'' ⟨⟨q, dd, rfl, _, hA, _⟩, hb⟩
          refine ⟨_, rfl, (x.1, x.2.1, q, dd), (by rw [hAF.out]; exact agree_set 22 (18, .slice x.2.2.1 Q.length x.2.2.2) rfl (by kernel_rfl)), (by intro t hd _; cases hd; exact T18 _), ?_⟩
          exact hc.op12 hb hA
    · exact opOk3_quiet _ (by intro x t hd _; cases hd; exact T19 x) (fun x => wanted_ofR rfl rfl (T14 x)) fun x d w' hd hc => by
          have n : d 10 = true := hd 10 (by kernel_rfl)
          have n2 : d 12 = true := hd 12 (by kernel_rfl)
          rw [n, n2] at hc
          refine sc (run_callI13 rfl (E16 x) (E18 x)) ((rints_E _ _ _ _ Q w' (hc.p rfl) (hc.q rfl)).mono (fun e w'' hq => ⟨hq.1, ?_⟩))
          show AlC w rows Q x (d 1) (d 10) (d 12) w''
          rw [n, n2]
          exact hc.below hq.2
    · exact opOk3_quiet _ (by intro x t hd _; cases hd; exact T20 x) (fun x => wanted_ofR rfl rfl (T14 x)) fun x d w' hd hc => sv (run_notS rfl (E19 x)) hc
    · exact opOk3_quiet _ (by intro x t hd _; cases hd; exact T21 x) (fun _ => rfl) fun x d w' hd hc => sv (run_pickR rfl (E14 x) (E20 x)) hc
    · exact opOk3_quiet _ (by intro x t hd _; cases hd; exact T22 x) (fun _ => rfl) fun x d w' hd hc => sv (run_mov rfl (E21 x)) hc
    · exact opOk3_quiet _ (by intro x t hd _; cases hd; exact T23 x) (fun x => wanted_ofR rfl rfl (T22 x)) fun x d w' hd hc => sv (run_mov rfl (E0 x)) hc
    · exact opOk3_quiet _ (by intro x t hd _; cases hd; exact T24 x) (fun x => wanted_ofR rfl rfl (T22 x)) fun x d w' hd hc => sc (run_callTo rfl (E23 x)) ((hto.out w' hc.m).mono (fun e w'' hq => ⟨hq.1, hc.below hq.2⟩))
    · exact opOk3_quiet _ (by intro x t hd _; cases hd; exact T25 x) (fun x => wanted_ofR rfl rfl (T22 x)) fun x d w' hd hc => sv (run_mov rfl (E1 x)) hc
    · exact opOk3_quiet _ (by intro x t hd _; cases hd; exact T26 x) (fun x => wanted_ofR rfl rfl (T22 x)) fun x d w' hd hc => sc (run_callRTo rfl (E25 x)) ((hrt.out w' hc.m).mono (fun e w'' hq => ⟨hq.1, hc.below hq.2⟩))
    · exact opOk3_quiet _ (by intro x t hd _; cases hd; exact T27 x) (fun x => wanted_ofR rfl rfl (T22 x)) fun x d w' hd hc => sv (run_neqII rfl (E24 x) (E26 x)) hc
    · exact opOk3_quiet _ (by intro x t hd _; cases hd; exact T28 x) (fun _ => rfl) fun x d w' hd hc => sv (run_pickR rfl (E22 x) (E27 x)) hc
  · intro x d w' hd hc
    simp only [putAll, List.foldl_cons, List.foldl_nil, List.cons_append, List.nil_append, Act.put, List.setIfInBounds_toArray, List.set_cons_succ, List.set_cons_zero]
    have hm := hc.m
    obtain ⟨⟨q1, c1⟩, ⟨q2, c2⟩, q3, c3⟩ := x
    dsimp only
    clear hc hd hro hal hto hra hrt hk2 hsm
    replace hm := Lib.hid hm
    go_wp2_with fail
    go_loopw [5] (fun s5 wx => ∃ k : Nat, k ≤ T + 2 ∧ s5 = .int .i64 ((k : Int) - 1) ∧ wx = w') (fun s5 _ => T + 3 - (intOf s5 + 1).toNat)
    case atStart => exact ⟨0, Nat.zero_le _, rfl, rfl⟩
    case round =>
      obtain ⟨k, hk, rfl, rfl⟩ := hrel
      have k1 := hk1.out _ hm.out
      by_cases hlt : (k : Int) - 1 ≤ (T : Int)
      · have s1 : IntKind.i64.wrap ((k : Int) - 1 + 1) = (k : Int) - 1 + 1 := IntWalk.i64_in _ (by omega)
        have hw : wf64 ((k : Int) - 1) := by unfold wf64; omega
        have h1 := hha.out _ hm.out _ hw
        have h2 := hrw.out _ hm.out ((k : Int) - 1)
        have h3 := hwh.out _ hm.out _ hw
        have hkT : k + 1 ≤ T + 2 := by omega
        obtain ⟨rq, hrq⟩ : ∃ rq : Int, (k : Int) - 1 = rq := ⟨_, rfl⟩
        rw [hrq] at h1 h2 h3 hlt s1 ⊢
        replace hrq := Lib.hid hrq
        generalize whereP rows rq = X at *
        by_cases hX : 0 ≤ X
        · rw [decide_eq_true hX] at h1
          go_wp2_with fail
          refine h1.mono ?_
          rintro e w5 ⟨rfl, rfl⟩
          go_wp2_with fail
          refine h2.mono ?_
          rintro e w5 ⟨rfl, rfl⟩
          go_wp2_with fail
          refine h3.mono ?_
          rintro e w5 ⟨rfl, rfl⟩
          go_wp2_with fail
          refine h2.mono ?_
          rintro e w5 ⟨rfl, rfl⟩
          go_wp2_with fail
          go_roundw
          case rel => exact ⟨k + 1, hkT, by have := hrq.out; simp; omega, trivial⟩
          case measure => have := hrq.out; simp [intOf]; omega
        · rw [decide_eq_false hX] at h1
          go_wp2_with fail
          refine h1.mono ?_
          rintro e w5 ⟨rfl, rfl⟩
          go_wp2_with fail
          refine h2.mono ?_
          rintro e w5 ⟨rfl, rfl⟩
          go_wp2_with fail
          refine h3.mono ?_
          rintro e w5 ⟨rfl, rfl⟩
          go_wp2_with fail
          refine h2.mono ?_
          rintro e w5 ⟨rfl, rfl⟩
          go_wp2_with fail
          go_roundw
          case rel => exact ⟨k + 1, hkT, by have := hrq.out; simp; omega, trivial⟩
          case measure => have := hrq.out; simp [intOf]; omega
      · have hbf := Lib.hid (hm.out.below (Nat.le_refl _) (fun _ h => h.elim))
        go_wp2_with fail
        go_ret
        exact ⟨rfl, hbf.out⟩
end Go.Proofs.YtdmnoogppmckaaaGreat
