/-
  Layer 14: the program's search by hand: the ways, as an iterator, of two vehicles with nothing to do.
-/
import Derived.Test.YtpbmeeogledmdaeWy14
namespace Go.Proofs.Ytpbmeeogledmdae
open Go.RowKit
attribute [local go_sem] Oper.semAt_some

section
variable {ρ : Operand → Value} {o : Oper} {w : World} {x y z : Operand}
theorem run_callChkY {a b c : Value} (ho : o.op = .call { callee := .value (.func 12), args := #[x, y, z], argTypes := #[47, 48, 30] }) (hx : ρ x = a) (hy : ρ y = b) (hz : ρ z = c)
    (hf : ρ (.func 12) = .func (.func 12) #[] #[] := by rfl) : (execOp ρ o).run Try.prog w = .ok (.enter 12 #[a, b, c]) w := by
  unfold execOp
  simp only [ho]
  go_simp
theorem run_neqNY (ho : o.op = .binOp .neq 52 x (.const .nilIface) 52) (hx : ρ x = .nilIface) (hc : ∀ v, ρ (.const v) = v := by intro _; rfl) : (execOp ρ o).run Try.prog w = .ok (.value (.bool false)) w := by
  unfold execOp
  simp only [ho, hx, hc]
  go_simp
theorem wanted_ofP {ops : Array Oper} {o : Oper} {ts : Array Value} {j : Nat} {b : Bool} {d : Nat} (hg : o.guard = some (j, b)) (hd : dstOf ops j = some d) (hv : ts[d]? = some (.bool b)) : Region.wanted o (yielded ops ts) = true := by
  unfold Region.wanted yielded
  unfold dstOf at hd
  simp only [hg, hd, Option.bind_some, hv, beq_self_eq_true]
theorem run_pickFY {c a b : Operand} {v : Value} (ho : o.op = .pick c a b) (hc : ρ c = .bool false) (hb : ρ b = v) : (execOp ρ o).run Try.prog w = .ok (.value v) w := by
  unfold execOp
  simp only [ho, hc, hb]
  go_simp
theorem run_ixVeY {a : Addr} {n c k : Nat} (ho : o.op = .indexAddr 28 x y) (hx : ρ x = .slice (some a) n c) (hy : ρ y = .int .i64 k) (hk : k < n) : (execOp ρ o).run Try.prog w = .ok (.value (.pointer (some (a.add (k * 5))))) w := by
  have h0 : (0 : Int) ≤ (k : Int) := by omega
  have h1 : (k : Int) < (n : Int) := by omega
  have h2 : ((k : Int)).toNat = k := by omega
  unfold execOp
  simp only [ho, hx, hy]
  go_simp
theorem run_cellVeY {p : Addr} {q : Option Addr} {n c : Nat} (h : w.cell? p = some (.slice q n c)) : (loadVar 28 p).run Try.prog w = .ok (.slice q n c) w := by go_simp
theorem run_cellRqY {p : Addr} {q : Option Addr} {n c : Nat} (h : w.cell? p = some (.slice q n c)) : (loadVar 30 p).run Try.prog w = .ok (.slice q n c) w := by go_simp
end
/-- what the callees say of two vehicles V i, with nothing to do, or with the request alone, where the worlds go on from w -/
structure WyF (w : World) (V : Nat → Value) (q' : Option Addr) (m d' : Nat) (req : Int) (E R : Nat → Int) : Prop where
  tm0 : ∀ wx, Below w.heap.size w wx → ∀ i, i < 2 → Calls Try.prog 10 #[V i, .slice none 0 0, .slice q' m d'] wx fun e w' => ∃ p n c, e = .returned (.tuple #[.slice p n c, .int .i64 (E i), .int .i64 0]) ∧ Below wx.heap.size wx w'
  wi : ∀ wx, Calls Try.prog 11 #[.slice none 0 0, .int .i64 req, .int .i64 0, .int .i64 0] wx fun e w' => ∃ q d, e = .returned (.tuple #[.slice q 2 d, .bool true]) ∧ Els w' q 2 ((prL req).map stV) ∧ Below wx.heap.size wx w'
  fc : ∀ wx, Below w.heap.size w wx → ∀ q d, Els wx q 2 ((prL req).map stV) → ∀ i, i < 2 → Calls Try.prog 12 #[V i, .slice q 2 d, .slice q' m d'] wx fun e w' => e = .returned .nilIface ∧ Below wx.heap.size wx w'
  tm1 : ∀ wx, Below w.heap.size w wx → ∀ q d, Els wx q 2 ((prL req).map stV) → ∀ i, i < 2 → Calls Try.prog 10 #[V i, .slice q 2 d, .slice q' m d'] wx fun e w' => ∃ p n c, e = .returned (.tuple #[.slice p n c, .int .i64 (E i + R i), .int .i64 0]) ∧ Below wx.heap.size wx w'
  bd : ∀ i, 0 ≤ E i ∧ E i ≤ 4194304 ∧ 0 ≤ R i ∧ R i ≤ 4194304
abbrev Wy4 := (Int × Int × Int) × Int
def wyE (x : Wy4) : Array Value := #[.agg #[.int .i64 x.1.1, .int .i64 x.1.2.1, .int .i64 x.1.2.2], .int .i64 x.2]
def wyX (R : Nat → Int) : List Wy4 := [((0, 0, 0), R 0), ((1, 0, 0), R 1)]
theorem wyX_split (R : Nat → Int) {i : Nat} (hi : i < 2) : wyX R = (wyX R).take i ++ (((i : Int), 0, 0), R i) :: (wyX R).drop (i + 1) ∧ (wyX R).take (i + 1) = (wyX R).take i ++ [(((i : Int), 0, 0), R i)] := by
  match i, hi with
  | 0, _ => exact ⟨rfl, rfl⟩
  | 1, _ => exact ⟨rfl, rfl⟩
set_option maxHeartbeats 4000000 in
set_option maxRecDepth 100000 in
theorem ways_iter (w W : World) (V : Nat → Value) (aV aR : Addr) (q' : Option Addr) (d dr m d' : Nat) (req : Int) (E R : Nat → Int) (hf : WyF w V q' m d' req E R) (bV bR bT bq : Nat) (hb : Below w.heap.size w W)
    (hlv : ∀ wx, Below w.heap.size w wx → ∀ i, i < 2 → (loadVar 47 (aV.add (i * 5))).run Try.prog wx = .ok (V i) wx) (hlr : ∀ wx, Below w.heap.size w wx → ∀ i, i < 2 → (loadVar 48 (aR.add i)).run Try.prog wx = .ok (.slice none 0 0) wx)
    (h1 : W.cell? ⟨bR, 0, none⟩ = some (.slice (some aR) 2 dr)) (h2 : W.cell? ⟨bV, 0, none⟩ = some (.slice (some aV) 2 d)) (h3 : W.cell? ⟨bT, 0, none⟩ = some (.slice q' m d')) (h4 : W.cell? ⟨bq, 0, none⟩ = some (.int .i64 req)) :
    Iter Try.prog 68 #[.pointer (some ⟨bR, 0, none⟩), .pointer (some ⟨bV, 0, none⟩), .pointer (some ⟨bT, 0, none⟩), .pointer (some ⟨bq, 0, none⟩)] wyE (fun _ => False) (fun k => k < w.heap.size ∨ k = bR ∨ k = bV ∨ k = bT ∨ k = bq) (wyX R) W := by
  intro yl J Jx n hJ hJx hY h0
  replace hY := Lib.hid hY
  replace hJ := Lib.hid hJ
  replace hJx := Lib.hid hJx
  replace hf := Lib.hid hf
  replace hlv := Lib.hid hlv
  replace hlr := Lib.hid hlr
  have hCs : ∃ Cs : World → Prop, Cs = fun wx => Below w.heap.size w wx ∧ wx.cell? ⟨bR, 0, none⟩ = some (.slice (some aR) 2 dr) ∧ wx.cell? ⟨bV, 0, none⟩ = some (.slice (some aV) 2 d) ∧ wx.cell? ⟨bT, 0, none⟩ = some (.slice q' m d') ∧ wx.cell? ⟨bq, 0, none⟩ = some (.int .i64 req) := ⟨_, rfl⟩
  obtain ⟨Cs, hCs⟩ := hCs
  have hC0 : Cs W := by rw [hCs]; exact ⟨hb, h1, h2, h3, h4⟩
  have hCm : ∀ A B : World, Cs A → Mod (fun _ => False) A B → Cs B := by
    intro A B hA hm
    rw [hCs] at hA ⊢
    obtain ⟨a1, a2, a3, a4, a5⟩ := hA
    exact ⟨a1.trans (hm.below a1.size (fun _ h => h.elim)), hm.cell_of (fun h => h) a2, hm.cell_of (fun h => h) a3, hm.cell_of (fun h => h) a4, hm.cell_of (fun h => h) a5⟩
  have hCy : ∀ A B : World, Cs A → Mod (fun k => ¬ False ∧ ¬ (k < w.heap.size ∨ k = bR ∨ k = bV ∨ k = bT ∨ k = bq)) A B → Cs B := by
    intro A B hA hm
    rw [hCs] at hA ⊢
    obtain ⟨a1, a2, a3, a4, a5⟩ := hA
    exact ⟨a1.trans (hm.below a1.size (fun k h => Nat.le_of_not_lt fun hlt => h.2 (.inl hlt))), hm.cell_of (fun h => h.2 (.inr (.inl rfl))) a2, hm.cell_of (fun h => h.2 (.inr (.inr (.inl rfl)))) a3, hm.cell_of (fun h => h.2 (.inr (.inr (.inr (.inl rfl))))) a4, hm.cell_of (fun h => h.2 (.inr (.inr (.inr (.inr rfl))))) a5⟩
  have hCb : ∀ A : World, Cs A → Below w.heap.size w A := by intro A hA; rw [hCs] at hA; exact hA.1
  have hCV : ∀ A : World, Cs A → A.cell? ⟨bV, 0, none⟩ = some (.slice (some aV) 2 d) := by intro A hA; rw [hCs] at hA; exact hA.2.2.1
  have hCT : ∀ A : World, Cs A → A.cell? ⟨bT, 0, none⟩ = some (.slice q' m d') := by intro A hA; rw [hCs] at hA; exact hA.2.2.2.1
  have hCq : ∀ A : World, Cs A → A.cell? ⟨bq, 0, none⟩ = some (.int .i64 req) := by intro A hA; rw [hCs] at hA; exact hA.2.2.2.2
  replace hCs := Lib.hid hCs
  have HC := Lib.hid hC0
  have HCm := Lib.hid hCm
  have HCy := Lib.hid hCy
  have HCb := Lib.hid hCb
  have HCV := Lib.hid hCV
  have HCT := Lib.hid hCT
  have HCq := Lib.hid hCq
  clear h2 h3 h4 hC0 hCm hCy hCb hCV hCT hCq hb
  refine callsIn_of_wp Try.func68 rfl trivial ?_ rfl
  simp only [Try.ntmps68, List.size_toArray, List.length_cons, List.length_nil, Nat.reduceAdd, Nat.reduceSub, Array.replicate_succ, Array.replicate_zero, List.push_toArray, List.append_toArray, List.nil_append, List.cons_append]
  gi_wp2
  clear h1
  gi_loopw [20] (fun s20 wx => ∃ i : Nat, i ≤ 2 ∧ s20 = .int .i64 i ∧ J ((wyX R).take i) wx ∧ Cs wx) (fun s20 _ => 2 - (intOf s20).toNat)
  case atStart => exact ⟨0, Nat.zero_le _, rfl, h0, HC.out⟩
  case round =>
    clear h0 HC
    obtain ⟨i, hi, rfl, hJi, hC⟩ := hrel
    by_cases hlt : i < 2
    · have hltI : (i : Int) < 2 := by omega
      have hi0 : (0 : Int) ≤ (i : Int) := by omega
      have s1 : IntKind.i64.wrap ((i : Int) + 1) = (i : Int) + 1 := IntWalk.i64_in _ (by omega)
      obtain ⟨hspl, htk⟩ := wyX_split R hlt
      have hspl := Lib.hid hspl
      have htk := Lib.hid htk
      have hbd := hf.out.bd i
      have hrw := Lib.hid (hlr.out _ (HCb.out _ hC) i hlt)
      have hvw := Lib.hid (fun wx (h : Cs wx) => hlv.out _ (HCb.out _ h) i hlt)
      have htm := Lib.hid (fun wx (h : Cs wx) => hf.out.tm0 _ (HCb.out _ h) i hlt)
      have hfc := Lib.hid (fun wx (h : Cs wx) q e hE => hf.out.fc _ (HCb.out _ h) q e hE i hlt)
      have htn := Lib.hid (fun wx (h : Cs wx) q e hE => hf.out.tm1 _ (HCb.out _ h) q e hE i hlt)
      have hYi := Lib.hid (fun W1 hJ1 => hY.out _ _ _ W1 hspl.out (fun _ h => h.elim) hJ1)
      have s2 : IntKind.i64.wrap (E i + R i - E i) = R i := by rw [show E i + R i - E i = R i by omega]; exact IntWalk.i64_in _ (by omega)
      replace hJi := Lib.hid hJi
      replace hC := Lib.hid hC
      generalize E i = en at *
      generalize R i = ri at *
      generalize V i = Y at *
      gi_wp2_with (first | (refine wpListIn_load_v (fun _ => trivial) rfl rfl 48 _ rfl (aR.add i) rfl _ hrw.out ?_))
      clear hrw
      refine wpIn_wide.2 ?_
      refine wp_region_rove (X := Option Addr × Nat × Nat) (none, 0, 0) (fun x => [(26, .slice (some aV) 2 d), (27, .int .i64 i), (28, .pointer (some (aV.add (i * 5)))), (29, Y), (30, .slice none 0 0), (31, .slice q' m d'), (34, .int .i64 en), (35, .int .i64 0), (9, .int .i64 en), (10, .int .i64 0)] ++ [(32, .tuple #[.slice x.1 x.2.1 x.2.2, .int .i64 en, .int .i64 0]), (25, .tuple #[.slice x.1 x.2.1 x.2.2, .int .i64 en, .int .i64 0]), (33, .slice x.1 x.2.1 x.2.2), (8, .slice x.1 x.2.1 x.2.2)])
        (fun x d W' => Mod (fun _ => False) wr W') (by kernel_rfl) (by kernel_rfl) (by kernel_rfl) (by kernel_rfl) (fun x => by kernel_rfl)
        (Mod.refl _ _).drew ?_ ?_
      · intro aF hAF
        have E2 : ∀ x, (aF x).eval (.tmp 2) = .pointer (some ⟨bV, 0, none⟩) := by intro x; rw [hAF]; kernel_rfl
        have E3 : ∀ x, (aF x).eval (.tmp 3) = .pointer (some ⟨bT, 0, none⟩) := by intro x; rw [hAF]; kernel_rfl
        have E6 : ∀ x, (aF x).eval (.tmp 6) = .int .i64 i := by intro x; rw [hAF]; kernel_rfl
        have E7 : ∀ x, (aF x).eval (.tmp 7) = .slice none 0 0 := by intro x; rw [hAF]; kernel_rfl
        have T26 : ∀ x, (aF x).tmps[26]? = some (.slice (some aV) 2 d) := by intro x; rw [hAF]; kernel_rfl
        have E26 : ∀ x, (aF x).eval (.tmp 26) = .slice (some aV) 2 d := by intro x; rw [hAF]; kernel_rfl
        have T27 : ∀ x, (aF x).tmps[27]? = some (.int .i64 i) := by intro x; rw [hAF]; kernel_rfl
        have E27 : ∀ x, (aF x).eval (.tmp 27) = .int .i64 i := by intro x; rw [hAF]; kernel_rfl
        have T28 : ∀ x, (aF x).tmps[28]? = some (.pointer (some (aV.add (i * 5)))) := by intro x; rw [hAF]; kernel_rfl
        have E28 : ∀ x, (aF x).eval (.tmp 28) = .pointer (some (aV.add (i * 5))) := by intro x; rw [hAF]; kernel_rfl
        have T29 : ∀ x, (aF x).tmps[29]? = some (Y) := by intro x; rw [hAF]; kernel_rfl
        have E29 : ∀ x, (aF x).eval (.tmp 29) = Y := by intro x; rw [hAF]; kernel_rfl
        have T30 : ∀ x, (aF x).tmps[30]? = some (.slice none 0 0) := by intro x; rw [hAF]; kernel_rfl
        have E30 : ∀ x, (aF x).eval (.tmp 30) = .slice none 0 0 := by intro x; rw [hAF]; kernel_rfl
        have T31 : ∀ x, (aF x).tmps[31]? = some (.slice q' m d') := by intro x; rw [hAF]; kernel_rfl
        have E31 : ∀ x, (aF x).eval (.tmp 31) = .slice q' m d' := by intro x; rw [hAF]; kernel_rfl
        have T34 : ∀ x, (aF x).tmps[34]? = some (.int .i64 en) := by intro x; rw [hAF]; kernel_rfl
        have E34 : ∀ x, (aF x).eval (.tmp 34) = .int .i64 en := by intro x; rw [hAF]; kernel_rfl
        have T35 : ∀ x, (aF x).tmps[35]? = some (.int .i64 0) := by intro x; rw [hAF]; kernel_rfl
        have E35 : ∀ x, (aF x).eval (.tmp 35) = .int .i64 0 := by intro x; rw [hAF]; kernel_rfl
        have T9 : ∀ x, (aF x).tmps[9]? = some (.int .i64 en) := by intro x; rw [hAF]; kernel_rfl
        have E9 : ∀ x, (aF x).eval (.tmp 9) = .int .i64 en := by intro x; rw [hAF]; kernel_rfl
        have T10 : ∀ x, (aF x).tmps[10]? = some (.int .i64 0) := by intro x; rw [hAF]; kernel_rfl
        have E10 : ∀ x, (aF x).eval (.tmp 10) = .int .i64 0 := by intro x; rw [hAF]; kernel_rfl
        have T32 : ∀ x, (aF x).tmps[32]? = some (.tuple #[.slice x.1 x.2.1 x.2.2, .int .i64 en, .int .i64 0]) := by intro x; rw [hAF]; kernel_rfl
        have E32 : ∀ x, (aF x).eval (.tmp 32) = .tuple #[.slice x.1 x.2.1 x.2.2, .int .i64 en, .int .i64 0] := by intro x; rw [hAF]; kernel_rfl
        have T25 : ∀ x, (aF x).tmps[25]? = some (.tuple #[.slice x.1 x.2.1 x.2.2, .int .i64 en, .int .i64 0]) := by intro x; rw [hAF]; kernel_rfl
        have E25 : ∀ x, (aF x).eval (.tmp 25) = .tuple #[.slice x.1 x.2.1 x.2.2, .int .i64 en, .int .i64 0] := by intro x; rw [hAF]; kernel_rfl
        have T33 : ∀ x, (aF x).tmps[33]? = some (.slice x.1 x.2.1 x.2.2) := by intro x; rw [hAF]; kernel_rfl
        have E33 : ∀ x, (aF x).eval (.tmp 33) = .slice x.1 x.2.1 x.2.2 := by intro x; rw [hAF]; kernel_rfl
        have T8 : ∀ x, (aF x).tmps[8]? = some (.slice x.1 x.2.1 x.2.2) := by intro x; rw [hAF]; kernel_rfl
        have E8 : ∀ x, (aF x).eval (.tmp 8) = .slice x.1 x.2.1 x.2.2 := by intro x; rw [hAF]; kernel_rfl
        replace hAF := Lib.hid hAF
        refine ⟨?_, ?_, ?_, ?_, ?_, ?_, ?_, ?_, ?_, ?_, ?_, ?_, ?_, ?_, trivial⟩
        · exact opOk3_quiet _ (by intro x t hd _; cases hd; exact T26 x) (fun _ => rfl) fun x d w' hd hc => sv (run_load1 rfl (E2 x) (run_cellVeY (HCV.out _ (HCm.out _ _ hC.out hc)))) hc
        · exact opOk3_quiet _ (by intro x t hd _; cases hd; exact T27 x) (fun _ => rfl) fun x d w' hd hc => sv (run_mov rfl (E6 x)) hc
        · exact opOk3_quiet _ (by intro x t hd _; cases hd; exact T28 x) (fun _ => rfl) fun x d w' hd hc => sv (run_ixVeY rfl (E26 x) (E27 x) hlt) hc
        · exact opOk3_quiet _ (by intro x t hd _; cases hd; exact T29 x) (fun _ => rfl) fun x d w' hd hc => sv (run_load1 rfl (E28 x) (hvw.out _ (HCm.out _ _ hC.out hc))) hc
        · exact opOk3_quiet _ (by intro x t hd _; cases hd; exact T30 x) (fun _ => rfl) fun x d w' hd hc => sv (run_mov rfl (E7 x)) hc
        · exact opOk3_quiet _ (by intro x t hd _; cases hd; exact T31 x) (fun _ => rfl) fun x d w' hd hc => sv (run_load1 rfl (E3 x) (run_cellRqY (HCT.out _ (HCm.out _ _ hC.out hc)))) hc
        · exact opOk3_loud rfl fun x d w' hd hn hc => by
              refine sk (run_callTimes rfl (E29 x) (E30 x) (E31 x)) ((htm.out _ (HCm.out _ _ hC.out hc)).mono ?_)
              rintro e w'' ⟨q, nn, dd, rfl, hb⟩
              exact ⟨_, rfl, (q, nn, dd), (by rw [hAF.out]; exact agree_any (by kernel_rfl) (by kernel_rfl)), (by intro t hd _; cases hd; exact T32 _), hc.after hb⟩
        · exact opOk3_quiet (fun x => .tuple #[.slice x.1 x.2.1 x.2.2, .int .i64 en, .int .i64 0]) (by intro x t hd _; cases hd; exact T25 x) (fun _ => rfl) fun x d w' hd hc => sv (run_mov rfl (E32 x)) hc
        · exact opOk3_quiet (fun x => .slice x.1 x.2.1 x.2.2) (by intro x t hd _; cases hd; exact T33 x) (fun _ => rfl) fun x d w' hd hc => sv (run_ext rfl (E25 x) rfl) hc
        · exact opOk3_quiet _ (by intro x t hd _; cases hd; exact T34 x) (fun _ => rfl) fun x d w' hd hc => sv (run_ext rfl (E25 x) rfl) hc
        · exact opOk3_quiet _ (by intro x t hd _; cases hd; exact T35 x) (fun _ => rfl) fun x d w' hd hc => sv (run_ext rfl (E25 x) rfl) hc
        · exact opOk3_quiet (fun x => .slice x.1 x.2.1 x.2.2) (by intro x t hd _; cases hd; exact T8 x) (fun _ => rfl) fun x d w' hd hc => sv (run_asg rfl (E33 x)) hc
        · exact opOk3_quiet _ (by intro x t hd _; cases hd; exact T9 x) (fun _ => rfl) fun x d w' hd hc => sv (run_asg rfl (E34 x)) hc
        · exact opOk3_quiet _ (by intro x t hd _; cases hd; exact T10 x) (fun _ => rfl) fun x d w' hd hc => sv (run_asg rfl (E35 x)) hc
      · intro xw1 dw1 w1 hd hc
        simp only [putAll, List.foldl_cons, List.foldl_nil, List.cons_append, List.nil_append, Act.put, List.setIfInBounds_toArray, List.set_cons_succ, List.set_cons_zero]
        have hC3 := Lib.hid (HCm.out _ _ hC.out hc)
        have hJ3 := Lib.hid (hJ.out _ _ _ hJi.out hc)
        clear hC hJi hc hd htm
        gi_wp2_with fail
        gi_loopw [39] (fun s39 wx => (s39 = .int .i64 0 ∧ J ((wyX R).take i) wx ∨ s39 = .int .i64 1 ∧ J ((wyX R).take (i + 1)) wx) ∧ Cs wx) (fun s39 _ => 1 - (intOf s39).toNat)
        case atStart => exact ⟨.inl ⟨rfl, hJ3.out⟩, hC3.out⟩
        case round =>
          clear hJ3 hC3
          obtain ⟨⟨rfl, hJa⟩ | ⟨rfl, hJa⟩, hC⟩ := hrel
          rotate_left
          · gi_wp2_with fail
            go_roundw
            case rel => exact ⟨i + 1, by omega, by simp, hJa, hC⟩
            case measure => simp [intOf]; omega
          · gi_wp2_with fail
            gi_loopw [12] (fun s12 wx => (s12 = .int .i64 0 ∧ J ((wyX R).take i) wx ∨ s12 = .int .i64 1 ∧ J ((wyX R).take (i + 1)) wx) ∧ Cs wx) (fun s12 _ => 1 - (intOf s12).toNat)
            case atStart => exact ⟨.inl ⟨rfl, hJa⟩, hC⟩
            case round =>
              clear hJa hC
              obtain ⟨⟨rfl, hJb⟩ | ⟨rfl, hJb⟩, hC⟩ := hrel
              rotate_left
              · gi_wp2_with fail
                go_roundw
                case rel => exact ⟨.inr ⟨rfl, hJb⟩, hC⟩
                case measure => simp [intOf]
              · have hcq := HCq.out _ hC
                replace hJb := Lib.hid hJb
                replace hC := Lib.hid hC
                gi_wp2_with fail
                refine callW (hf.out.wi _) ?_
                rintro e w2 ⟨qW, dW, rfl, hEW, hb2⟩
                have hm2 := (Mod.refl (fun _ => False) wr).after hb2
                have hC2 := Lib.hid (HCm.out _ _ hC.out hm2)
                have hJ2 := Lib.hid (hJ.out _ _ _ hJb.out hm2)
                replace hEW := Lib.hid hEW
                clear hC hJb hcq hb2 hm2
                gi_wp2_with fail
                refine wpIn_wide.2 ?_
                refine wp_region_rove (X := Unit) () (fun x => [(57, .bool true), (58, .bool false), (59, .bool false), (60, .slice (some aV) 2 d), (61, .int .i64 i), (62, .pointer (some (aV.add (i * 5)))), (63, Y), (64, .slice qW 2 dW), (65, .slice q' m d'), (66, .nilIface), (67, .bool false), (68, .bool false)])
                  (fun x d W' => Mod (fun _ => False) w2 W') (by kernel_rfl) (by kernel_rfl) (by kernel_rfl) (by kernel_rfl) (fun x => by kernel_rfl)
                  (Mod.refl _ _).drew ?_ ?_
                · intro aF hAF
                  have E2 : ∀ x, (aF x).eval (.tmp 2) = .pointer (some ⟨bV, 0, none⟩) := by intro x; rw [hAF]; kernel_rfl
                  have E3 : ∀ x, (aF x).eval (.tmp 3) = .pointer (some ⟨bT, 0, none⟩) := by intro x; rw [hAF]; kernel_rfl
                  have E6 : ∀ x, (aF x).eval (.tmp 6) = .int .i64 i := by intro x; rw [hAF]; kernel_rfl
                  have E13 : ∀ x, (aF x).eval (.tmp 13) = .slice qW 2 dW := by intro x; rw [hAF]; kernel_rfl
                  have E14 : ∀ x, (aF x).eval (.tmp 14) = .bool true := by intro x; rw [hAF]; kernel_rfl
                  have T57 : ∀ x, (aF x).tmps[57]? = some (.bool true) := by intro x; rw [hAF]; kernel_rfl
                  have E57 : ∀ x, (aF x).eval (.tmp 57) = .bool true := by intro x; rw [hAF]; kernel_rfl
                  have T58 : ∀ x, (aF x).tmps[58]? = some (.bool false) := by intro x; rw [hAF]; kernel_rfl
                  have E58 : ∀ x, (aF x).eval (.tmp 58) = .bool false := by intro x; rw [hAF]; kernel_rfl
                  have T59 : ∀ x, (aF x).tmps[59]? = some (.bool false) := by intro x; rw [hAF]; kernel_rfl
                  have E59 : ∀ x, (aF x).eval (.tmp 59) = .bool false := by intro x; rw [hAF]; kernel_rfl
                  have T60 : ∀ x, (aF x).tmps[60]? = some (.slice (some aV) 2 d) := by intro x; rw [hAF]; kernel_rfl
                  have E60 : ∀ x, (aF x).eval (.tmp 60) = .slice (some aV) 2 d := by intro x; rw [hAF]; kernel_rfl
                  have T61 : ∀ x, (aF x).tmps[61]? = some (.int .i64 i) := by intro x; rw [hAF]; kernel_rfl
                  have E61 : ∀ x, (aF x).eval (.tmp 61) = .int .i64 i := by intro x; rw [hAF]; kernel_rfl
                  have T62 : ∀ x, (aF x).tmps[62]? = some (.pointer (some (aV.add (i * 5)))) := by intro x; rw [hAF]; kernel_rfl
                  have E62 : ∀ x, (aF x).eval (.tmp 62) = .pointer (some (aV.add (i * 5))) := by intro x; rw [hAF]; kernel_rfl
                  have T63 : ∀ x, (aF x).tmps[63]? = some (Y) := by intro x; rw [hAF]; kernel_rfl
                  have E63 : ∀ x, (aF x).eval (.tmp 63) = Y := by intro x; rw [hAF]; kernel_rfl
                  have T64 : ∀ x, (aF x).tmps[64]? = some (.slice qW 2 dW) := by intro x; rw [hAF]; kernel_rfl
                  have E64 : ∀ x, (aF x).eval (.tmp 64) = .slice qW 2 dW := by intro x; rw [hAF]; kernel_rfl
                  have T65 : ∀ x, (aF x).tmps[65]? = some (.slice q' m d') := by intro x; rw [hAF]; kernel_rfl
                  have E65 : ∀ x, (aF x).eval (.tmp 65) = .slice q' m d' := by intro x; rw [hAF]; kernel_rfl
                  have T66 : ∀ x, (aF x).tmps[66]? = some (.nilIface) := by intro x; rw [hAF]; kernel_rfl
                  have E66 : ∀ x, (aF x).eval (.tmp 66) = .nilIface := by intro x; rw [hAF]; kernel_rfl
                  have T67 : ∀ x, (aF x).tmps[67]? = some (.bool false) := by intro x; rw [hAF]; kernel_rfl
                  have E67 : ∀ x, (aF x).eval (.tmp 67) = .bool false := by intro x; rw [hAF]; kernel_rfl
                  have T68 : ∀ x, (aF x).tmps[68]? = some (.bool false) := by intro x; rw [hAF]; kernel_rfl
                  have E68 : ∀ x, (aF x).eval (.tmp 68) = .bool false := by intro x; rw [hAF]; kernel_rfl
                  replace hAF := Lib.hid hAF
                  refine ⟨?_, ?_, ?_, ?_, ?_, ?_, ?_, ?_, ?_, ?_, ?_, ?_, trivial⟩
                  · exact opOk3_quiet _ (by intro x t hd _; cases hd; exact T57 x) (fun _ => rfl) fun x d w' hd hc => sv (run_mov rfl (E14 x)) hc
                  · exact opOk3_quiet _ (by intro x t hd _; cases hd; exact T58 x) (fun _ => rfl) fun x d w' hd hc => sv (run_notS rfl (E57 x)) hc
                  · exact opOk3_quiet _ (by intro x t hd _; cases hd; exact T59 x) (fun _ => rfl) fun x d w' hd hc => sv (run_mov rfl (E58 x)) hc
                  · exact opOk3_quiet _ (by intro x t hd _; cases hd; exact T60 x) (fun x => wanted_ofP rfl rfl (T59 x)) fun x d w' hd hc => sv (run_load1 rfl (E2 x) (run_cellVeY (HCV.out _ (HCm.out _ _ hC2.out hc)))) hc
                  · exact opOk3_quiet _ (by intro x t hd _; cases hd; exact T61 x) (fun x => wanted_ofP rfl rfl (T59 x)) fun x d w' hd hc => sv (run_mov rfl (E6 x)) hc
                  · exact opOk3_quiet _ (by intro x t hd _; cases hd; exact T62 x) (fun x => wanted_ofP rfl rfl (T59 x)) fun x d w' hd hc => sv (run_ixVeY rfl (E60 x) (E61 x) hlt) hc
                  · exact opOk3_quiet _ (by intro x t hd _; cases hd; exact T63 x) (fun x => wanted_ofP rfl rfl (T59 x)) fun x d w' hd hc => sv (run_load1 rfl (E62 x) (hvw.out _ (HCm.out _ _ hC2.out hc))) hc
                  · exact opOk3_quiet _ (by intro x t hd _; cases hd; exact T64 x) (fun x => wanted_ofP rfl rfl (T59 x)) fun x d w' hd hc => sv (run_mov rfl (E13 x)) hc
                  · exact opOk3_quiet _ (by intro x t hd _; cases hd; exact T65 x) (fun x => wanted_ofP rfl rfl (T59 x)) fun x d w' hd hc => sv (run_load1 rfl (E3 x) (run_cellRqY (HCT.out _ (HCm.out _ _ hC2.out hc)))) hc
                  · exact opOk3_quiet _ (by intro x t hd _; cases hd; exact T66 x) (fun x => wanted_ofP rfl rfl (T59 x)) fun x d w' hd hc => sc (run_callChkY rfl (E63 x) (E64 x) (E65 x)) ((hfc.out _ (HCm.out _ _ hC2.out hc) qW dW (els_modP hEW.out hc (fun _ _ _ h => h))).mono (fun e w'' hq => ⟨hq.1, hc.after hq.2⟩))
                  · exact opOk3_quiet _ (by intro x t hd _; cases hd; exact T67 x) (fun x => wanted_ofP rfl rfl (T59 x)) fun x d w' hd hc => sv (run_neqNY rfl (E66 x)) hc
                  · exact opOk3_quiet _ (by intro x t hd _; cases hd; exact T68 x) (fun _ => rfl) fun x d w' hd hc => sv (run_pickFY rfl (E59 x) (E67 x)) hc
                · intro x2 d2 w3 hd2 hc2
                  simp only [putAll, List.foldl_cons, List.foldl_nil, Act.put, List.setIfInBounds_toArray, List.set_cons_succ, List.set_cons_zero]
                  have hC3 := Lib.hid (HCm.out _ _ hC2.out hc2)
                  have hJ3 := Lib.hid (hJ.out _ _ _ hJ2.out hc2)
                  have hE3 := Lib.hid (els_modP hEW.out hc2 (fun _ _ _ h => h))
                  clear hC2 hJ2 hEW hc2 hd2
                  gi_wp2_with fail
                  refine wpIn_wide.2 ?_
                  refine wp_region_rove (X := Option Addr × Nat × Nat) (none, 0, 0) (fun x => [(70, .slice (some aV) 2 d), (71, .int .i64 i), (72, .pointer (some (aV.add (i * 5)))), (73, Y), (74, .slice qW 2 dW), (75, .slice q' m d'), (78, .int .i64 (en + ri)), (79, .int .i64 0), (16, .int .i64 (en + ri)), (17, .int .i64 0)] ++ [(76, .tuple #[.slice x.1 x.2.1 x.2.2, .int .i64 (en + ri), .int .i64 0]), (69, .tuple #[.slice x.1 x.2.1 x.2.2, .int .i64 (en + ri), .int .i64 0]), (77, .slice x.1 x.2.1 x.2.2), (15, .slice x.1 x.2.1 x.2.2)])
                    (fun x d W' => Mod (fun _ => False) w3 W') (by kernel_rfl) (by kernel_rfl) (by kernel_rfl) (by kernel_rfl) (fun x => by kernel_rfl)
                    (Mod.refl _ _).drew ?_ ?_
                  · intro aF hAF
                    have E2 : ∀ x, (aF x).eval (.tmp 2) = .pointer (some ⟨bV, 0, none⟩) := by intro x; rw [hAF]; kernel_rfl
                    have E3 : ∀ x, (aF x).eval (.tmp 3) = .pointer (some ⟨bT, 0, none⟩) := by intro x; rw [hAF]; kernel_rfl
                    have E6 : ∀ x, (aF x).eval (.tmp 6) = .int .i64 i := by intro x; rw [hAF]; kernel_rfl
                    have E13 : ∀ x, (aF x).eval (.tmp 13) = .slice qW 2 dW := by intro x; rw [hAF]; kernel_rfl
                    have T70 : ∀ x, (aF x).tmps[70]? = some (.slice (some aV) 2 d) := by intro x; rw [hAF]; kernel_rfl
                    have E70 : ∀ x, (aF x).eval (.tmp 70) = .slice (some aV) 2 d := by intro x; rw [hAF]; kernel_rfl
                    have T71 : ∀ x, (aF x).tmps[71]? = some (.int .i64 i) := by intro x; rw [hAF]; kernel_rfl
                    have E71 : ∀ x, (aF x).eval (.tmp 71) = .int .i64 i := by intro x; rw [hAF]; kernel_rfl
                    have T72 : ∀ x, (aF x).tmps[72]? = some (.pointer (some (aV.add (i * 5)))) := by intro x; rw [hAF]; kernel_rfl
                    have E72 : ∀ x, (aF x).eval (.tmp 72) = .pointer (some (aV.add (i * 5))) := by intro x; rw [hAF]; kernel_rfl
                    have T73 : ∀ x, (aF x).tmps[73]? = some (Y) := by intro x; rw [hAF]; kernel_rfl
                    have E73 : ∀ x, (aF x).eval (.tmp 73) = Y := by intro x; rw [hAF]; kernel_rfl
                    have T74 : ∀ x, (aF x).tmps[74]? = some (.slice qW 2 dW) := by intro x; rw [hAF]; kernel_rfl
                    have E74 : ∀ x, (aF x).eval (.tmp 74) = .slice qW 2 dW := by intro x; rw [hAF]; kernel_rfl
                    have T75 : ∀ x, (aF x).tmps[75]? = some (.slice q' m d') := by intro x; rw [hAF]; kernel_rfl
                    have E75 : ∀ x, (aF x).eval (.tmp 75) = .slice q' m d' := by intro x; rw [hAF]; kernel_rfl
                    have T78 : ∀ x, (aF x).tmps[78]? = some (.int .i64 (en + ri)) := by intro x; rw [hAF]; kernel_rfl
                    have E78 : ∀ x, (aF x).eval (.tmp 78) = .int .i64 (en + ri) := by intro x; rw [hAF]; kernel_rfl
                    have T79 : ∀ x, (aF x).tmps[79]? = some (.int .i64 0) := by intro x; rw [hAF]; kernel_rfl
                    have E79 : ∀ x, (aF x).eval (.tmp 79) = .int .i64 0 := by intro x; rw [hAF]; kernel_rfl
                    have T16 : ∀ x, (aF x).tmps[16]? = some (.int .i64 (en + ri)) := by intro x; rw [hAF]; kernel_rfl
                    have E16 : ∀ x, (aF x).eval (.tmp 16) = .int .i64 (en + ri) := by intro x; rw [hAF]; kernel_rfl
                    have T17 : ∀ x, (aF x).tmps[17]? = some (.int .i64 0) := by intro x; rw [hAF]; kernel_rfl
                    have E17 : ∀ x, (aF x).eval (.tmp 17) = .int .i64 0 := by intro x; rw [hAF]; kernel_rfl
                    have T76 : ∀ x, (aF x).tmps[76]? = some (.tuple #[.slice x.1 x.2.1 x.2.2, .int .i64 (en + ri), .int .i64 0]) := by intro x; rw [hAF]; kernel_rfl
                    have E76 : ∀ x, (aF x).eval (.tmp 76) = .tuple #[.slice x.1 x.2.1 x.2.2, .int .i64 (en + ri), .int .i64 0] := by intro x; rw [hAF]; kernel_rfl
                    have T69 : ∀ x, (aF x).tmps[69]? = some (.tuple #[.slice x.1 x.2.1 x.2.2, .int .i64 (en + ri), .int .i64 0]) := by intro x; rw [hAF]; kernel_rfl
                    have E69 : ∀ x, (aF x).eval (.tmp 69) = .tuple #[.slice x.1 x.2.1 x.2.2, .int .i64 (en + ri), .int .i64 0] := by intro x; rw [hAF]; kernel_rfl
                    have T77 : ∀ x, (aF x).tmps[77]? = some (.slice x.1 x.2.1 x.2.2) := by intro x; rw [hAF]; kernel_rfl
                    have E77 : ∀ x, (aF x).eval (.tmp 77) = .slice x.1 x.2.1 x.2.2 := by intro x; rw [hAF]; kernel_rfl
                    have T15 : ∀ x, (aF x).tmps[15]? = some (.slice x.1 x.2.1 x.2.2) := by intro x; rw [hAF]; kernel_rfl
                    have E15 : ∀ x, (aF x).eval (.tmp 15) = .slice x.1 x.2.1 x.2.2 := by intro x; rw [hAF]; kernel_rfl
                    replace hAF := Lib.hid hAF
                    refine ⟨?_, ?_, ?_, ?_, ?_, ?_, ?_, ?_, ?_, ?_, ?_, ?_, ?_, ?_, trivial⟩
                    · exact opOk3_quiet _ (by intro x t hd _; cases hd; exact T70 x) (fun _ => rfl) fun x d w' hd hc => sv (run_load1 rfl (E2 x) (run_cellVeY (HCV.out _ (HCm.out _ _ hC3.out hc)))) hc
                    · exact opOk3_quiet _ (by intro x t hd _; cases hd; exact T71 x) (fun _ => rfl) fun x d w' hd hc => sv (run_mov rfl (E6 x)) hc
                    · exact opOk3_quiet _ (by intro x t hd _; cases hd; exact T72 x) (fun _ => rfl) fun x d w' hd hc => sv (run_ixVeY rfl (E70 x) (E71 x) hlt) hc
                    · exact opOk3_quiet _ (by intro x t hd _; cases hd; exact T73 x) (fun _ => rfl) fun x d w' hd hc => sv (run_load1 rfl (E72 x) (hvw.out _ (HCm.out _ _ hC3.out hc))) hc
                    · exact opOk3_quiet _ (by intro x t hd _; cases hd; exact T74 x) (fun _ => rfl) fun x d w' hd hc => sv (run_mov rfl (E13 x)) hc
                    · exact opOk3_quiet _ (by intro x t hd _; cases hd; exact T75 x) (fun _ => rfl) fun x d w' hd hc => sv (run_load1 rfl (E3 x) (run_cellRqY (HCT.out _ (HCm.out _ _ hC3.out hc)))) hc
                    · exact opOk3_loud rfl fun x d w' hd hn hc => by
                          refine sk (run_callTimes rfl (E73 x) (E74 x) (E75 x)) ((htn.out _ (HCm.out _ _ hC3.out hc) qW dW (els_modP hE3.out hc (fun _ _ _ h => h))).mono ?_)
                          rintro e w'' ⟨q, nn, dd, rfl, hb⟩
                          exact ⟨_, rfl, (q, nn, dd), (by rw [hAF.out]; exact agree_any (by kernel_rfl) (by kernel_rfl)), (by intro t hd _; cases hd; exact T76 _), hc.after hb⟩
                    · exact opOk3_quiet (fun x => .tuple #[.slice x.1 x.2.1 x.2.2, .int .i64 (en + ri), .int .i64 0]) (by intro x t hd _; cases hd; exact T69 x) (fun _ => rfl) fun x d w' hd hc => sv (run_mov rfl (E76 x)) hc
                    · exact opOk3_quiet (fun x => .slice x.1 x.2.1 x.2.2) (by intro x t hd _; cases hd; exact T77 x) (fun _ => rfl) fun x d w' hd hc => sv (run_ext rfl (E69 x) rfl) hc
                    · exact opOk3_quiet _ (by intro x t hd _; cases hd; exact T78 x) (fun _ => rfl) fun x d w' hd hc => sv (run_ext rfl (E69 x) rfl) hc
                    · exact opOk3_quiet _ (by intro x t hd _; cases hd; exact T79 x) (fun _ => rfl) fun x d w' hd hc => sv (run_ext rfl (E69 x) rfl) hc
                    · exact opOk3_quiet (fun x => .slice x.1 x.2.1 x.2.2) (by intro x t hd _; cases hd; exact T15 x) (fun _ => rfl) fun x d w' hd hc => sv (run_asg rfl (E77 x)) hc
                    · exact opOk3_quiet _ (by intro x t hd _; cases hd; exact T16 x) (fun _ => rfl) fun x d w' hd hc => sv (run_asg rfl (E78 x)) hc
                    · exact opOk3_quiet _ (by intro x t hd _; cases hd; exact T17 x) (fun _ => rfl) fun x d w' hd hc => sv (run_asg rfl (E79 x)) hc
                  · intro xw4 dw4 w4 hd3 hc3
                    simp only [putAll, List.foldl_cons, List.foldl_nil, List.cons_append, List.nil_append, Act.put, List.setIfInBounds_toArray, List.set_cons_succ, List.set_cons_zero]
                    have hC4 := Lib.hid (HCm.out _ _ hC3.out hc3)
                    have hJ4 := hJ.out _ _ _ hJ3.out hc3
                    obtain ⟨fn, tmps, assign, body, hy, hR⟩ := hYi.out _ hJ4
                    have HR := Lib.hid hR
                    clear hR hJ3 hE3 hc3 hd3 hJ4 hC3
                    unfold wyE at hy
                    dsimp only at hy
                    gi_wp2_with fail
                    refine ⟨wideN _, HR.out.mono ?_⟩
                    rintro e W3 ⟨hT, (⟨rfl, hJ5⟩ | ⟨rfl, hJx5⟩)⟩
                    · have hC5 := Lib.hid (HCy.out _ _ hC4.out hT)
                      rw [← htk.out] at hJ5
                      replace hJ5 := Lib.hid hJ5
                      clear hT hy hC4 HR
                      gi_wp2_with fail
                      go_roundw
                      case rel => exact ⟨.inr ⟨rfl, hJ5.out⟩, hC5.out⟩
                      case measure => simp [intOf]
                    · clear hT hy hC4 HR
                      gi_wp2_with fail
                      refine bodyPost_ret (results_none rfl _ _ _) rfl ?_
                      exact ⟨⟨_, rfl⟩, .inr ⟨_, _, _, hspl.out, hJx5⟩⟩
    · obtain rfl : i = 2 := by omega
      gi_wp2_with fail
      go_end0
      exact ⟨⟨_, rfl⟩, .inl hJi⟩
end Go.Proofs.Ytpbmeeogledmdae
