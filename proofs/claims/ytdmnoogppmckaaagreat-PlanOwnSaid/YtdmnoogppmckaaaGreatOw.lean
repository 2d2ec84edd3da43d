/-
  Layer 13: PlanOwn: the walk.
-/
import Derived.Test.YtdmnoogppmckaaaGreatHo
import Derived.Test.YtdmnoogppmckaaaGreatCy
namespace Go.Proofs.YtdmnoogppmckaaaGreat
open Go.RowKit

section
variable {ρ : Operand → Value} {o : Oper} {w : World} {x y : Operand}
theorem run_ixVe0 {g n c k : Nat} (ho : o.op = .indexAddr 22 x y) (hx : ρ x = .slice (some ⟨g, 0, none⟩) n c) (hy : ρ y = .int .i64 k) (hk : k < n) : (execOp ρ o).run Tryz.prog w = .ok (.value (.pointer (some ⟨g, k * 5, none⟩))) w := by
  have := run_ixVe (w := w) ho hx hy hk
  rwa [addr0P] at this
theorem run_ixRq0 {g n c k : Nat} (ho : o.op = .indexAddr 23 x y) (hx : ρ x = .slice (some ⟨g, 0, none⟩) n c) (hy : ρ y = .int .i64 k) (hk : k < n) : (execOp ρ o).run Tryz.prog w = .ok (.value (.pointer (some ⟨g, k * 10, none⟩))) w := by
  have := run_ixRq (w := w) ho hx hy hk
  rwa [addr0P] at this
theorem run_ixSt0 {g n c k : Nat} (ho : o.op = .indexAddr 47 x y) (hx : ρ x = .slice (some ⟨g, 0, none⟩) n c) (hy : ρ y = .int .i64 k) (hk : k < n) : (execOp ρ o).run Tryz.prog w = .ok (.value (.pointer (some ⟨g, k * 2, none⟩))) w := by
  have h0 : (0 : Int) ≤ (k : Int) := by omega
  have h1 : (k : Int) < (n : Int) := by omega
  have h2 : ((k : Int)).toNat = k := by omega
  have h3 : (⟨g, 0, none⟩ : Addr).add (k * 2) = ⟨g, k * 2, none⟩ := addr0P _ _
  unfold execOp
  simp only [ho, hx, hy]
  go_simp
theorem run_ixIn0 {g n c k : Nat} (ho : o.op = .indexAddr 55 x y) (hx : ρ x = .slice (some ⟨g, 0, none⟩) n c) (hy : ρ y = .int .i64 k) (hk : k < n) : (execOp ρ o).run Tryz.prog w = .ok (.value (.pointer (some ⟨g, k, none⟩))) w := by
  have h0 : (0 : Int) ≤ (k : Int) := by omega
  have h1 : (k : Int) < (n : Int) := by omega
  have h2 : ((k : Int)).toNat = k := by omega
  have h3 : (⟨g, 0, none⟩ : Addr).add k = ⟨g, k, none⟩ := addr0P _ _
  unfold execOp
  simp only [ho, hx, hy]
  go_simp
end
def ve0C : Array Value := #[.int .i64 0, .int .i64 0, .int .i64 0, .int .i64 0, .int .i64 0]
def rq0C : Array Value := #[.int .i64 0, .int .i64 0, .int .i64 0, .int .i64 0, .int .i64 0, .int .i64 0, .int .i64 0, .int .i64 0, .int .i64 0, .int .i64 0]
theorem run_b0V (w : World) : (Instr.build 53 #[]).run Tryz.prog w = .ok (.agg ve0C) w := by kernel_rfl
theorem run_b0R (w : World) : (Instr.build 72 #[]).run Tryz.prog w = .ok (.agg rq0C) w := by kernel_rfl
theorem run_b99 (w : World) : (Instr.build 75 #[(0, .int .i64 99)]).run Tryz.prog w = .ok (.agg #[.int .i64 99, .int .i64 0]) w := by kernel_rfl
theorem rsl_veZ (w : World) : (Instr.buildSlice 22 0 #[]).run Tryz.prog w = .ok (.slice (some ⟨w.heap.size, 0, none⟩) 0 0) (w.alloc (.cells #[] 53)) := by kernel_rfl
theorem veR_all (l : List Ve) : ∀ z ∈ l.map veR, ∀ u ∈ z, u.oneCell' = true := by
  intro z hz
  obtain ⟨s, _, rfl⟩ := List.mem_map.1 hz
  simp [veR, Value.oneCell']
theorem els_size {w : World} {g n : Nat} {C : Array Value} {T : TypeId} {R : List (List Value)} (hB : Blk w g C T) (h : Els w (some ⟨g, 0, none⟩) n R) : R.length * n ≤ C.size := by
  by_cases h0 : R.length = 0
  · rw [h0]; omega
  by_cases hn : n = 0
  · subst hn; omega
  have hk : R.length - 1 < R.length := by omega
  have hl := h.len _ (List.getElem_mem hk)
  have := h.cells _ rfl (R.length - 1) R[R.length - 1] (n - 1) (R[R.length - 1][n - 1]'(by omega)) (List.getElem?_eq_getElem hk) (List.getElem?_eq_getElem _)
  rw [addr0P] at this
  unfold Blk at hB
  simp only [World.cell?, hB] at this
  have h2 : (R.length - 1) * n + (n - 1) < C.size := by
    by_cases hh : (R.length - 1) * n + (n - 1) < C.size
    · exact hh
    · simp [Array.getElem?_eq_none (by omega : C.size ≤ (R.length - 1) * n + (n - 1))] at this
  have h3 : (R.length - 1) * n + n = R.length * n := by
    rw [← Nat.succ_mul]
    congr 1
    omega
  omega
/-- rows of stops that lie between two blocks, to be written over -/
def RwE (lo hi : Nat) (rows : List Rou2) (qs : List (Option Addr × Nat)) (q : Option Addr) (W : World) : Prop :=
  Els W q 1 (rsV rows qs rows.length) ∧ (0 < rows.length → ∃ g C, q = some ⟨g, 0, none⟩ ∧ lo ≤ g ∧ Blk W g C 47) ∧
    ∀ i, i < rows.length → rows.getD i [] ≠ [] → ∃ g C, (qs.getD i (none, 0)).1 = some ⟨g, 0, none⟩ ∧ lo ≤ g ∧ g < hi ∧ Blk W g C 75 ∧ 2 * (rows.getD i []).length ≤ C.size
section
variable {lo hi : Nat} {rows : List Rou2} {qs : List (Option Addr × Nat)} {q : Option Addr} {W W' : World}
theorem RwE.mod (h : RwE lo hi rows qs q W) {S : Nat → Prop} (hm : Mod S W W') (hs : ∀ k, lo ≤ k → ¬ S k) : RwE lo hi rows qs q W' := by
  obtain ⟨h1, h2, h3⟩ := h
  refine ⟨els_modP h1 hm (fun a ha h0 => ?_), fun h0 => ?_, fun i hi' h0 => ?_⟩
  · have hl : 0 < rows.length := by
      rw [← rsV_size rows qs rows.length]
      exact List.length_pos_iff.2 h0
    obtain ⟨g, C, e, hg, _⟩ := h2 hl
    rw [e] at ha
    cases ha
    exact hs _ hg
  · obtain ⟨g, C, e, hg, hB⟩ := h2 h0
    exact ⟨g, C, e, hg, hB.mod hm (hs _ hg)⟩
  · obtain ⟨g, C, e, hg, hg2, hB, hc⟩ := h3 i hi' h0
    exact ⟨g, C, e, hg, hg2, hB.mod hm (hs _ hg), hc⟩
theorem RwE.store (h : RwE lo hi rows qs q W) {g : Nat} {C C' : Array Value} (hB : Blk W g C 75) (hB' : Blk W' g C' 75) (hm : Mod (· = g) W W') (hc : C'.size = C.size) : RwE lo hi rows qs q W' := by
  obtain ⟨h1, h2, h3⟩ := h
  refine ⟨els_modP h1 hm (fun a ha h0 => ?_), fun h0 => ?_, fun i hi' h0 => ?_⟩
  · have hl : 0 < rows.length := by
      rw [← rsV_size rows qs rows.length]
      exact List.length_pos_iff.2 h0
    obtain ⟨g2, C2, e, hg, hB2⟩ := h2 hl
    rw [e] at ha
    cases ha
    exact blk_ne hB2 hB (by decide)
  · obtain ⟨g2, C2, e, hg, hB2⟩ := h2 h0
    exact ⟨g2, C2, e, hg, hB2.mod hm (blk_ne hB2 hB (by decide))⟩
  · obtain ⟨g2, C2, e, hg, hg2, hB2, hc2⟩ := h3 i hi' h0
    by_cases hgg : g2 = g
    · subst hgg
      have e2 : C2 = C := by
        unfold Blk at hB hB2
        rw [hB] at hB2
        simpa using hB2.symm
      subst e2
      exact ⟨g2, C', e, hg, hg2, hB', by omega⟩
    · exact ⟨g2, C2, e, hg, hg2, hB2.mod hm hgg, hc2⟩
theorem RwE.of {w w' : World} {base : Nat} (hEl : Els w q 1 (rsV rows qs rows.length)) (hI : ∀ i, i < rows.length → RowI w base (qs.getD i (none, 0)) (rows.getD i [])) (hG : 0 < rows.length → ∃ g C, q = some ⟨g, 0, none⟩ ∧ Blk w g C 47) (hq : ∀ a, q = some a → base ≤ a.block)
    (hb : Below w.heap.size w w') : RwE base w'.heap.size rows qs q w' := by
  have hm := (Mod.refl (fun _ => False) w).after hb
  have h0 : RwE base w'.heap.size rows qs q w := by
    refine ⟨hEl, fun h0 => ?_, fun i hi' h0 => ?_⟩
    · obtain ⟨g, C, e, hB⟩ := hG h0
      exact ⟨g, C, e, hq _ e, hB⟩
    · obtain ⟨h1, h2, h3⟩ := hI i hi'
      obtain ⟨g, C, e, hg, hB⟩ := h3 h0
      rw [e] at h1
      have := els_size hB h1
      rw [List.length_map] at this
      exact ⟨g, C, e, hg, Nat.lt_of_lt_of_le hB.lt hm.size, hB, by omega⟩
  exact h0.mod hm (fun _ _ h => h)
end
/-- a row of integers of its own, to be written over -/
def InE (lo hi n : Nat) (q : Option Addr) (W : World) : Prop := 0 < n → ∃ g C, q = some ⟨g, 0, none⟩ ∧ lo ≤ g ∧ g < hi ∧ Blk W g C 3 ∧ n ≤ C.size
theorem InE.mod {lo hi n : Nat} {q : Option Addr} {W W' : World} (h : InE lo hi n q W) {S : Nat → Prop} (hm : Mod S W W') (hs : ∀ k C, lo ≤ k → Blk W k C 3 → ¬ S k) : InE lo hi n q W' := fun h0 => by
  obtain ⟨g, C, e, h1, h2, h3, h4⟩ := h h0
  exact ⟨g, C, e, h1, h2, h3.mod hm (hs g C h1 h3), h4⟩
theorem PSt.of {B b gT gM N : Nat} {w : World} {F : Nat → Prop} {fl : List Ve} {rows : List Rou2} {t : List Rq} (h : PlanAt w F b gT gM N fl rows t) (hok : PlnOk fl rows t) (hl : t.length ≤ 1000) (h1 : B ≤ gT) (h2 : B ≤ gM) : PSt B w b gT gM N fl rows t := by
  have hh := h
  obtain ⟨qT, dT, cT, qs, h⟩ := h
  exact ⟨⟨F, hh⟩, hok, hl, ⟨h1, h2, h.lt _ h.fT, h.lt _ h.fM⟩⟩
theorem PlanAt.own {b gT gM N : Nat} {w : World} {F : Nat → Prop} {fl : List Ve} {rows : List Rou2} {t : List Rq} (h : PlanAt w F b gT gM N fl rows t) : F gT ∧ F gM := by
  obtain ⟨qT, dT, cT, qs, h⟩ := h
  exact ⟨h.fT, h.fM⟩
theorem PlanAt.lts {b gT gM N : Nat} {w : World} {F : Nat → Prop} {fl : List Ve} {rows : List Rou2} {t : List Rq} (h : PlanAt w F b gT gM N fl rows t) : gT < w.heap.size ∧ gM < w.heap.size ∧ ∀ k, F k → k < w.heap.size := by
  obtain ⟨qT, dT, cT, qs, h⟩ := h
  exact ⟨h.lt _ h.fT, h.lt _ h.fM, h.lt⟩
/-- a plan, its copy, what the plan told, between two blocks -/
structure OwS (w0 : World) (lo0 lo hi : Nat) (F : List Ve) (T : List Rq) (rows : List Rou2) (b gT gM N : Nat) (R : List Rou2) (b' gT' gM' N' : Nat) (qs : List (Option Addr × Nat)) (qR qA : Option Addr) (Q : List Int) (FC : Nat → Prop) (W : World) : Prop where
  p : ∃ Fp, PlanAt W Fp b gT gM N F rows T ∧ ∀ k, Fp k → k < lo0
  c : PlanAt W FC b' gT' gM' N' F R T
  rw : RwE lo hi rows qs qR W
  rs : RsAt W lo qR rows
  il : InE lo hi Q.length qA W
  ia : Els W qA 1 (Q.map inV)
  low : Below w0.heap.size w0 W
section
variable {w0 : World} {lo0 lo hi : Nat} {F : List Ve} {T : List Rq} {rows : List Rou2} {b gT gM N : Nat} {R : List Rou2} {b' gT' gM' N' : Nat} {qs : List (Option Addr × Nat)} {qR qA : Option Addr} {Q : List Int} {FC : Nat → Prop} {W W' : World}
theorem OwS.below (h : OwS w0 lo0 lo hi F T rows b gT gM N R b' gT' gM' N' qs qR qA Q FC W) (hb : Below W.heap.size W W') : OwS w0 lo0 lo hi F T rows b gT gM N R b' gT' gM' N' qs qR qA Q FC W' := by
  have hm := (Mod.refl (fun _ => False) W).after hb
  obtain ⟨Fp, h1, h2⟩ := h.p
  exact ⟨⟨Fp, h1.below hb, h2⟩, h.c.below hb, h.rw.mod hm (fun _ _ h => h), h.rs.below hb, h.il.mod hm (fun _ _ _ _ h => h), h.ia.below hb, h.low.trans (hb.mono h.low.size)⟩
theorem OwS.act (h : OwS w0 lo0 lo hi F T rows b gT gM N R b' gT' gM' N' qs qR qA Q FC W) {R2 : List Rou2} {N2 : Nat} {FC2 : Nat → Prop} (hc : PlanAt W' FC2 b' gT' gM' N2 F R2 T) (hm : Mod (fun k => k = gT' ∨ k = gM') W W')
    (h1 : lo0 ≤ gT' ∧ lo0 ≤ gM') (h2 : gT' < lo ∧ gM' < lo) (h3 : w0.heap.size ≤ lo0) : OwS w0 lo0 lo hi F T rows b gT gM N R2 b' gT' gM' N2 qs qR qA Q FC2 W' := by
  obtain ⟨Fp, p1, p2⟩ := h.p
  refine ⟨⟨Fp, p1.mod hm (fun k hk hf => by have := p2 k hf; omega), p2⟩, hc, h.rw.mod hm (fun k hk s => by omega), h.rs.mod hm (fun k hk s => by omega), h.il.mod hm (fun k _ hk _ s => by omega), els_modP h.ia hm (fun a ha h0 s => ?_), h.low.trans (hm.below h.low.size (fun k hk => by omega))⟩
  obtain ⟨g, C, e, h4, _⟩ := h.il (by rw [← List.length_map (f := inV)]; exact List.length_pos_iff.2 h0)
  rw [e] at ha
  cases ha
  simp only at s
  omega
theorem OwS.erase (h : OwS w0 lo0 lo hi F T rows b gT gM N R b' gT' gM' N' qs qR qA Q FC W) (hm : Mod (fun k => lo ≤ k ∧ k < hi) W W') (h1 : lo0 ≤ lo) (h2 : ∀ k, FC k → k < lo ∨ hi ≤ k) (h3 : w0.heap.size ≤ lo0) :
    (∃ Fp, PlanAt W' Fp b gT gM N F rows T) ∧ PlanAt W' FC b' gT' gM' N' F R T ∧ Below w0.heap.size w0 W' := by
  obtain ⟨Fp, p1, p2⟩ := h.p
  exact ⟨⟨Fp, p1.mod hm (fun k hk hf => by have := p2 k hf; omega)⟩, h.c.mod hm (fun k hk hf => by have := h2 k hf; omega), h.low.trans (hm.below h.low.size (fun k hk => by omega))⟩
theorem OwS.pp {M0 : Nat} (h : OwS w0 lo0 lo hi F T rows b gT gM N R b' gT' gM' N' qs qR qA Q FC W) (hok : PlnOk F rows T) (hl : T.length ≤ 1000) (h1 : M0 ≤ gT ∧ M0 ≤ gM) : PSt M0 W b gT gM N F rows T := by
  obtain ⟨Fp, p1, _⟩ := h.p
  exact PSt.of p1 hok hl h1.1 h1.2
end
set_option maxHeartbeats 16000000 in
set_option maxRecDepth 100000 in
theorem PlanOwn_walk (p : Option Addr) (c : Nat) (B : List Int) (n wd k f : Int) (pA : Option Addr) (cA : Nat) (acts : List (Int × Int)) (w : World) (hA : DrA w p B n wd) (hf : 0 ≤ f ∧ f < 256) (hE : Els w pA 2 ((acts.take 30).map acV)) (hbl : acts.length ≤ 9223372036854775807) (hr : AcRg acts) :
    Calls Tryz.prog 8 #[.agg (ptC p c B n wd k f), .slice pA acts.length cA] w fun e w' => e = .returned (.bool true) ∧ Below w.heap.size w w' := by
  have hnc := pt_newC B n wd f hf hA.nb
  have hTl : (ptT B n wd).length ≤ 1000 := by
    have : (ptT B n wd).length = ptN n := drT_len _ _ _ _
    have := hA.nb
    unfold ptN at *
    omega
  have hFl : (ptF B n f).length ≤ 1000 := by have := (newC_ok0 hnc).1; omega
  have hF4 := (newC_ok0 hnc).1
  obtain ⟨C, hC⟩ : ∃ C, ptC p c B n wd k f = C := ⟨_, rfl⟩
  have hc5 : C.size = 5 := by rw [← hC]; rfl
  have hpt := Lib.hid (fun wx (hb : Below w.heap.size w wx) => ptparts_calls p c B n wd k f wx (hA.below hb) hf)
  rw [hC] at hpt ⊢
  unfold PtPost at hpt
  have hl0 := Lib.hid (fun wx (h : Blk wx w.heap.size C 38) => run_load_row (P := Tryz.prog) wx w.heap.size 38 C _ _ h Tryz.underlying38 rfl (by rw [hc5]; kernel_rfl))
  have hB0 := Lib.hid (Blk.new w C 38)
  have hb0 := Lib.hid (new_below w (.cells C 38))
  replace hE := Lib.hid hE
  replace hr := Lib.hid hr
  replace hc5 := Lib.hid hc5
  clear hC hA
  generalize ptF B n f = F at *
  generalize ptT B n wd = T at *
  go_enter Tryz.func8, Tryz.ntmps8
  go_wp2_with fail
  refine (works13_calls _).mono ?_
  rintro e w1 ⟨rfl, hb1⟩
  have hl1 := Lib.hid (hl0.out w1 (hB0.out.mod ((Mod.refl (fun _ => False) _).after hb1) (fun h => h)))
  replace hb1 := Lib.hid (hb0.out.trans (hb1.mono hb0.out.size))
  clear hl0 hB0 hb0
  go_wp2_with (refine wpList_load_v rfl 38 _ rfl ⟨w.heap.size, 0, none⟩ rfl _ hl1.out ?_)
  refine (hpt.out _ hb1.out).mono ?_
  rintro e w2 ⟨⟨q, d, q', d', rfl, hd, hd', hF, hT, hqf, hqf'⟩, hb2⟩
  have hb2w := Lib.hid (hb1.out.trans (hb2.mono hb1.out.size))
  replace hF := Lib.hid hF
  replace hT := Lib.hid hT
  clear hb1 hb2 hpt hl1 hqf hqf'
  have ho1 := Lib.hid (World.ownsRow_made (base := w2.heap.size) (e := 53) (size := 5) w2 #[] 0 (Nat.le_refl _) (by unfold maxLen; omega) rfl)
  have hlow1 := Lib.hid (new_below w2 (.cells #[] 53))
  have hFA := Lib.hid (hF.out.below hlow1.out)
  have hz1 := Lib.hid hlow1.out.size
  have hFl2 := Lib.hid (show F.length = (F.map veR).length by rw [List.length_map])
  have hTl2 := Lib.hid (show T.length = (T.map rqV).length by rw [List.length_map])
  have hFall := Lib.hid (veR_all F)
  have hTall := Lib.hid (rqV_allP T)
  go_wp2_with (first | (refine wpList_bs0 rfl 22 0 rfl _ _ (rsl_veZ _) ?_) |
    (refine wpList_appE ve_el rfl _ _ rfl w2.heap.size hz1.out _ 0 [] rfl ho1.out (by omega) q F.length d _ rfl hFA.out hFl2.out (by omega) hFall.out ?_; intro v30 w30 hO30 hg30) |
    (refine wpList_bs0 rfl 23 0 rfl _ _ (rsl_rqZP _) ?_) |
    (refine wpList_appE rq_el rfl _ _ rfl w30.heap.size (new_below w30 (.cells #[] 72)).size _ 0 [] rfl (World.ownsRow_made (base := w30.heap.size) (e := 72) (size := 10) w30 #[] 0 (Nat.le_refl _) (by unfold maxLen; omega) rfl) (by omega) q' T.length d' _ rfl
      (hT.out.below ((grown_low hlow1.out (Nat.le_refl _) (Nat.le_refl _) ho1.out hg30).alloc (grown_low hlow1.out (Nat.le_refl _) (Nat.le_refl _) ho1.out hg30).size _)) hTl2.out (by omega) hTall.out ?_; intro v33 w33 hO33 hg33))
  have hlow30 := grown_low hlow1.out (Nat.le_refl _) (Nat.le_refl _) ho1.out hg30
  have hlow31 := hlow30.alloc hlow30.size (.cells #[] 72)
  have ho31 := World.ownsRow_made (base := w30.heap.size) (e := 72) (size := 10) w30 #[] 0 (Nat.le_refl _) (by unfold maxLen; omega) rfl
  have hlow33 := grown_low hlow31 hlow30.size (Nat.le_refl _) ho31 hg33
  have hlow303 := grown_low (new_below w30 (.cells #[] 72)) (Nat.le_refl _) (Nat.le_refl _) ho31 hg33
  rw [Nat.zero_add, List.nil_append] at hO30 hO33
  obtain ⟨qO, nO, dO, rfl⟩ := own_isS hO30
  obtain ⟨qS, nS, dS, rfl⟩ := own_isS hO33
  obtain ⟨hEO, hnO, hdO, _⟩ := own_els (R := F.map veR) (veR_lenP F) (by rw [List.length_map]; exact hO30) (by rw [List.length_map]; omega)
  obtain ⟨hES, hnS, hdS, _⟩ := own_els (R := T.map rqV) (rqV_len T) (by rw [List.length_map]; exact hO33) (by rw [List.length_map]; omega)
  rw [List.length_map] at hnO hnS
  subst hnO hnS
  obtain ⟨gV, CV, rfl, hBV, hgV, _⟩ := ownS_blk hO30 (by omega)
  have hBV3 := hBV.mod ((Mod.refl (fun _ => False) w30).after hlow303) (fun h => h)
  have hVsz := els_size hBV hEO
  rw [List.length_map] at hVsz
  have hEO3 := hEO.below hlow303
  have hVlt := hBV3.lt
  obtain ⟨gR, hgR, hgR2, hR0⟩ : ∃ gR, w2.heap.size ≤ gR ∧ gR < w33.heap.size ∧ (0 < T.length → qS = some ⟨gR, 0, none⟩ ∧ ∃ C, Blk w33 gR C 72 ∧ T.length * 10 ≤ C.size) := by
    by_cases h0 : 0 < T.length
    · obtain ⟨gR, CR, rfl, hBR, hgR, _⟩ := ownS_blk hO33 h0
      have h2 := els_size hBR hES
      rw [List.length_map] at h2
      exact ⟨gR, Nat.le_trans hlow30.size hgR, hBR.lt, fun _ => ⟨rfl, CR, hBR, h2⟩⟩
    · exact ⟨gV, hgV, hVlt, fun h => absurd h h0⟩
  have hnew := Lib.hid (pnew_calls (some ⟨gV, 0, none⟩) qS dO dS F T w33 hEO3 hFl hES hTl)
  unfold NwPost at hnew
  have hVf := Lib.hid (show ∃ C, Blk w33 gV C 53 ∧ F.length * 5 ≤ C.size from ⟨CV, hBV3, hVsz⟩)
  replace hR0 := Lib.hid hR0
  have hL := Lib.hid hlow33
  clear hO30 hO33 hg30 hg33 hlow30 hlow31 ho31 hlow33 hlow303 hEO hES hBV hBV3 hVsz hEO3 ho1 hlow1 hFA hz1 hFl2 hTl2 hFall hTall
  go_wp2_with fail
  refine hnew.out.mono ?_
  rintro e w34 ⟨hb34, hor⟩
  rcases hor with ⟨h, _⟩ | ⟨_, b0, gT0, gM0, G, rfl, hG, hPl⟩
  · exact absurd hnc h
  have hm34 := (Mod.refl (fun _ => False) w33).after hb34
  have hVf2 := Lib.hid (show ∃ C, Blk w34 gV C 53 ∧ F.length * 5 ≤ C.size from by obtain ⟨C, h1, h2⟩ := hVf.out; exact ⟨C, h1.mod hm34 (fun h => h), h2⟩)
  have hRf2 := Lib.hid (show 0 < T.length → qS = some ⟨gR, 0, none⟩ ∧ ∃ C, Blk w34 gR C 72 ∧ T.length * 10 ≤ C.size from fun h0 => by obtain ⟨h3, C, h1, h2⟩ := hR0.out h0; exact ⟨h3, C, h1.mod hm34 (fun h => h), h2⟩)
  replace hL := Lib.hid (hL.out.trans (hb34.mono hL.out.size))
  have hM0 : w2.heap.size ≤ w33.heap.size := by omega
  obtain ⟨M0, hM0e⟩ : ∃ M0, w33.heap.size = M0 := ⟨_, rfl⟩
  rw [hM0e] at hVlt hgR2 hM0 hG
  replace hG := Lib.hid hG
  replace hPl := Lib.hid hPl
  have hne := Lib.hid (fun (h0 : 0 < T.length) => (by obtain ⟨_, C, h1, _⟩ := hRf2.out h0; obtain ⟨C2, h3, _⟩ := hVf2.out; exact blk_ne h1 h3 (by decide) : gR ≠ gV))
  clear hb34 hm34 hnew hVf hR0 hM0e
  go_wp2_with fail
  go_loopw [11] (fun s11 wx => ∃ i : Nat, i ≤ F.length ∧ s11 = .int .i64 i ∧ (∃ C, Blk wx gV C 53 ∧ F.length * 5 ≤ C.size) ∧ Mod (fun k => k = gV) w34 wx) (fun s11 _ => F.length - (intOf s11).toNat)
  case atStart => exact ⟨0, Nat.zero_le _, rfl, hVf2.out, Mod.refl _ _⟩
  case round =>
    clear hVf2
    obtain ⟨i, hi, rfl, ⟨CV, hBV, hVsz⟩, hm⟩ := hrel
    by_cases hlt : i < F.length
    · have hltI : (i : Int) < (F.length : Int) := by omega
      have hi0 : (0 : Int) ≤ (i : Int) := by omega
      have s1 : IntKind.i64.wrap ((i : Int) + 1) = (i : Int) + 1 := IntWalk.i64_in _ (by omega)
      have hcs : i * 5 + ve0C.size ≤ CV.size := by
        have : ve0C.size = 5 := rfl
        omega
      replace hm := Lib.hid hm
      go_wp2_with (first | (refine wpList_build_v rfl 53 rfl _ (run_b0V _) ?_) | (refine wpList_v rfl (.pointer (some ⟨gV, i * 5, none⟩)) (run_ixVe0 (k := i) rfl rfl rfl hlt) ?_) |
        (refine wpList_store_part rfl 53 _ _ rfl rfl gV (i * 5) rfl CV ve0C _ hBV rfl hcs (by simp [ve0C, Value.oneCell']) (by kernel_rfl) ?_; intro w6 C6 hB6 hm6 hs6 _))
      have hrel2 := Lib.hid (show (∃ C, Blk w6 gV C 53 ∧ F.length * 5 ≤ C.size) ∧ Mod (fun k => k = gV) w34 w6 from ⟨⟨C6, hB6, by omega⟩, hm.out.trans hm6⟩)
      clear hB6 hm6 hs6 hm hBV
      go_roundw
      case rel => exact ⟨i + 1, by omega, by simp, hrel2.out.1, hrel2.out.2⟩
      case measure => simp [intOf]; omega
    · obtain rfl : i = F.length := by omega
      clear hBV hVsz hlt
      have hRf3 := Lib.hid (show 0 < T.length → qS = some ⟨gR, 0, none⟩ ∧ ∃ C, Blk wr gR C 72 ∧ T.length * 10 ≤ C.size from fun h0 => by
        obtain ⟨h3, C, h1, h2⟩ := hRf2.out h0
        exact ⟨h3, C, h1.mod hm (hne.out h0), h2⟩)
      have hPl2 := Lib.hid (hPl.out.mod hm (fun k (hk : k = gV) hg => by have := hG.out k hg; omega))
      have hL2 := Lib.hid (hL.out.trans (hm.below hL.out.size (fun k (hk : k = gV) => by omega)))
      clear hRf2 hPl hL hm
      go_wp2_with fail
      go_loopw [12] (fun s12 wx => ∃ i : Nat, i ≤ T.length ∧ s12 = .int .i64 i ∧ (0 < T.length → qS = some ⟨gR, 0, none⟩ ∧ ∃ C, Blk wx gR C 72 ∧ T.length * 10 ≤ C.size) ∧ Mod (fun k => k = gR) wr wx) (fun s12 _ => T.length - (intOf s12).toNat)
      case atStart => exact ⟨0, Nat.zero_le _, rfl, hRf3.out, Mod.refl _ _⟩
      case round =>
        clear hRf3
        obtain ⟨i, hi, rfl, hRR, hm⟩ := hrel
        by_cases hlt : i < T.length
        · have hltI : (i : Int) < (T.length : Int) := by omega
          have hi0 : (0 : Int) ≤ (i : Int) := by omega
          have s1 : IntKind.i64.wrap ((i : Int) + 1) = (i : Int) + 1 := IntWalk.i64_in _ (by omega)
          obtain ⟨rfl, CR, hBR, hRsz⟩ := hRR (by omega)
          have hcs : i * 10 + rq0C.size ≤ CR.size := by
            have : rq0C.size = 10 := rfl
            omega
          replace hm := Lib.hid hm
          go_wp2_with (first | (refine wpList_build_v rfl 72 rfl _ (run_b0R _) ?_) | (refine wpList_v rfl (.pointer (some ⟨gR, i * 10, none⟩)) (run_ixRq0 (k := i) rfl rfl rfl hlt) ?_) |
            (refine wpList_store_part rfl 72 _ _ rfl rfl gR (i * 10) rfl CR rq0C _ hBR rfl hcs (by simp [rq0C, Value.oneCell']) (by kernel_rfl) ?_; intro w6 C6 hB6 hm6 hs6 _))
          have hrel2 := Lib.hid (show (0 < T.length → some (⟨gR, 0, none⟩ : Addr) = some ⟨gR, 0, none⟩ ∧ ∃ C, Blk w6 gR C 72 ∧ T.length * 10 ≤ C.size) ∧ Mod (fun k => k = gR) _ w6 from ⟨fun _ => ⟨rfl, C6, hB6, by omega⟩, hm.out.trans hm6⟩)
          clear hB6 hm6 hs6 hm hBR
          go_roundw
          case rel => exact ⟨i + 1, by omega, by simp, fun h => ⟨trivial, (hrel2.out.1 h).2⟩, hrel2.out.2⟩
          case measure => simp [intOf]; omega
        · obtain rfl : i = T.length := by omega
          have hPl3 := hPl2.out.mod hm (fun k (hk : k = gR) hg => by have := hG.out k hg; omega)
          have hbA := Lib.hid (hL2.out.trans (hm.below hL2.out.size (fun k (hk : k = gR) => by omega)))
          have hP := Lib.hid (PSt.of hPl3 (ok0 hnc) hTl (hG.out _ hPl3.own.1) (hG.out _ hPl3.own.2))
          clear hRR hlt hPl2 hL2 hm hPl3
          go_wp2_with fail
          go_loopw [9, 13] (fun s9 s13 wx => ∃ (i N b gT gM : Nat) (rows : List Rou2), i ≤ acts.length ∧ i ≤ 30 ∧ s13 = .int .i64 i ∧ s9 = .pointer (some ⟨b, 0, none⟩) ∧ N ≤ i ∧ PSt M0 wx b gT gM N F rows T ∧ Below w2.heap.size w2 wx) (fun _ s13 _ => acts.length - (intOf s13).toNat)
          case atStart => exact ⟨0, 0, b0, gT0, gM0, _, Nat.zero_le _, by omega, rfl, rfl, Nat.le_refl _, hP.out, hbA.out⟩
          case round =>
            clear hP hbA
            obtain ⟨i, N, b, gT, gM, rows, hi, hi30, rfl, rfl, hN, hP, hb⟩ := hrel
            by_cases hlt : i < acts.length ∧ i < 30
            · have hltI : (i : Int) < (acts.length : Int) := by omega
              have hlt30 : (i : Int) < 30 := by omega
              have hk0 : (0 : Int) ≤ (i : Int) := by omega
              have s1 : IntKind.i64.wrap ((i : Int) + 1) = (i : Int) + 1 := IntWalk.i64_in _ (by omega)
              have hok := Lib.hid hP.ok
              have hrow := hP.row
              have hrl := hP.ok.len
              have hgp := hP.gB
              have hgp1 : Hid (M0 ≤ gT ∧ M0 ≤ gM) := Lib.hid ⟨hgp.1, hgp.2.1⟩
              have hgm : Hid (M0 ≤ wr.heap.size) := Lib.hid (by omega)
              have hz2 := Lib.hid hb.size
              obtain ⟨Fp, hPa⟩ := hP.at_
              have hFp := hPa.lts.2.2
              have hcy := copy_calls hPa (by omega) (fun i => by have := hrow i; omega)
              replace hPa := Lib.hid hPa
              replace hFp := Lib.hid hFp
              have hn16 : 1 ≤ rows.length ∧ rows.length ≤ 4 := by omega
              replace hrow := Lib.hid hrow
              replace hrl := Lib.hid hrl
              replace hb := Lib.hid hb
              clear hP
              go_wp2_with fail
              refine hcy.mono ?_
              clear hcy
              rintro e w4 ⟨b', gT', gM', rfl, hC, hg1, hg2, hb4⟩
              obtain ⟨FC, hFC⟩ : ∃ FC, (fun k => Fp k ∨ (wr.heap.size ≤ k ∧ k < w4.heap.size)) = FC := ⟨_, rfl⟩
              rw [hFC] at hC
              have hCl := hC.lts
              have hP4 := Lib.hid (show PSt M0 w4 b gT gM N F rows T from PSt.of (hPa.out.below hb4) hok.out hTl (by omega) (by omega))
              replace hb := Lib.hid (hb.out.trans (hb4.mono hb.out.size))
              have hbw := hb2w.out.trans (hb.out.mono hb2w.out.size)
              obtain ⟨a, rfl⟩ := (hE.out.below hbw).some_of (k := i) (by simp; omega)
              have c1 := (hE.out.below hbw).cells a rfl i (acV acts[i]) 1 (.int .u8 acts[i].2) (by rw [List.getElem?_map, List.getElem?_take_of_lt hlt.2, List.getElem?_eq_getElem hlt.1]; rfl) rfl
              have c0 := Lib.hid (fun wx (h : Below w.heap.size w wx) => (hE.out.below h).cells a rfl i (acV acts[i]) 0 (.int .u8 acts[i].1) (by rw [List.getElem?_map, List.getElem?_take_of_lt hlt.2, List.getElem?_eq_getElem hlt.1]; rfl) rfl)
              rw [Nat.add_zero] at c0
              rw [← addr_add_add, addr_one] at c1
              have hrg := hr.out _ (List.getElem_mem hlt.1)
              obtain ⟨x, y, hxy⟩ : ∃ x y, acts[i] = (x, y) := ⟨_, _, rfl⟩
              rw [hxy] at c0 c1 hrg
              dsimp only at c0 c1 hrg
              clear hxy
              have e1 := Int.emod_nonneg y (show (12 : Int) ≠ 0 by omega)
              have e2 := Int.emod_lt_of_pos y (show (0 : Int) < 12 by omega)
              have e3 := Int.emod_nonneg x (show (4 : Int) ≠ 0 by omega)
              have e4 := Int.emod_lt_of_pos x (show (0 : Int) < 4 by omega)
              have s2 : IntKind.i64.wrap (y % 12 - 1) = y % 12 - 1 := IntWalk.i64_in _ (by omega)
              have hw : wf64 (y % 12 - 1) := by unfold wf64; omega
              have hro := hP4.out.routes
              have hz4 := Lib.hid hb4.size
              have hPa4 := Lib.hid (hPa.out.below hb4)
              replace hC := Lib.hid hC
              replace hCl := Lib.hid hCl
              clear hbw hPa hb4 hFC hgp
              go_wp2_with fail
              refine hro.mono ?_
              clear hro
              intro e w5 hR
              obtain ⟨hb5, qR, dR, qs, rfl, hEl, hRI, hG2, hRA⟩ := hR.at2
              have hqR : ∀ a, qR = some a → w4.heap.size ≤ a.block := by
                obtain ⟨_, _, h, _⟩ := hRA
                exact h
              have hal := (hP4.out.below hb5).all (by omega)
              unfold AqPost at hal
              replace hRA := Lib.hid hRA
              replace hEl := Lib.hid hEl
              replace hRI := Lib.hid hRI
              replace hG2 := Lib.hid hG2
              replace hqR := Lib.hid hqR
              replace hb5 := Lib.hid hb5
              go_wp2_with fail
              refine hal.mono ?_
              clear hal hR
              rintro e w6 ⟨⟨qA, dA, rfl, _, hA, hAo⟩, hb6⟩
              obtain ⟨Q, hQ⟩ : ∃ Q, allQ rows T = Q := ⟨_, rfl⟩
              have hQl := allQ_len rows T
              rw [hQ] at hA hAo hQl ⊢
              replace hQ := Lib.hid hQ
              have hbx := hb5.out.trans (hb6.mono hb5.out.size)
              have hSt := OwS.mk (w0 := w2) (lo0 := wr.heap.size) (lo := w4.heap.size) (hi := w6.heap.size) ⟨Fp, hPa4.out.below hbx, hFp.out⟩ (hC.out.below hbx) (RwE.of hEl.out hRI.out hG2.out hqR.out hb6) (hRA.out.below hb6)
                (fun h0 => by
                  obtain ⟨g, C, e1, e2, e3⟩ := hAo (by intro e; rw [e] at h0; simp at h0)
                  have := els_size e3 (e1 ▸ hA)
                  rw [List.length_map] at this
                  exact ⟨g, C, e1, Nat.le_trans hb5.out.size e2, e3.lt, e3, by omega⟩ : InE w4.heap.size w6.heap.size Q.length qA w6) hA (hb.out.trans (hbx.mono hb.out.size))
              have hw6 := hb2w.out.trans (hSt.low.mono hb2w.out.size)
              have c0' := c0.out _ hw6
              have hac := Lib.hid (fun (R2 : List Rou2) (N2 : Nat) (FC2 : Nat → Prop) (w7 : World) (hc : PlanAt w7 FC2 b' gT' gM' N2 F R2 T) (hm : Mod (fun k => k = gT' ∨ k = gM') w6 w7) => hSt.act hc hm ⟨hg1, hg2⟩ ⟨hCl.out.1, hCl.out.2.1⟩ hz2.out)
              have htk := Lib.hid (ptake_calls hok.out hSt.c (y % 12 - 1) hw)
              have hpu := Lib.hid (pput_calls hok.out hSt.c (by omega) (y % 12 - 1) hw)
              have hFl4 : ∀ (w7 : World) k, (FC k ∨ (w6.heap.size ≤ k ∧ k < w7.heap.size)) → k < w4.heap.size ∨ w6.heap.size ≤ k := fun w7 k hk => by
                rcases hk with hk | hk
                · exact .inl (hCl.out.2.2 k hk)
                · exact .inr hk.1
              replace hFl4 := Lib.hid hFl4
              replace hz4 : Hid (wr.heap.size ≤ w4.heap.size) := hz4
              have hgc : Hid (M0 ≤ gT' ∧ M0 ≤ gM') := Lib.hid (by have := hgm.out; omega)
              clear hSt hw6 c0 c1 hbx hA hAo hb6 hb5 hqR hRA hEl hRI hG2 hPa4 hP4 hFp hC hCl hg1 hg2 hb hgm
              have hby : ∃ R N2 FC7 w7, True := ⟨rows, N, FC, w6, trivial⟩
              clear hby
              by_cases hx : x % 4 = 1
              case' pos =>
                go_wp2_with fail
                refine htk.out.mono ?_
                rintro e w7 ⟨rfl, hC7, hm7⟩
                obtain ⟨R, N2, FC7, hN2, hok7, hFC7, hS7⟩ : ∃ R N2 FC7, N2 ≤ i + 1 ∧ PlnOk F R T ∧ (∀ k, FC7 k → k < w4.heap.size ∨ w6.heap.size ≤ k) ∧ OwS w2 wr.heap.size w4.heap.size w6.heap.size F T rows b gT gM N R b' gT' gM' N2 qs qR qA Q FC7 w7 :=
                  ⟨_, _, _, by omega, take_keeps hok.out _, hFl4.out w7, hac.out _ _ _ _ hC7 hm7⟩
              case' neg =>
                go_wp2_with fail
                refine hpu.out.mono ?_
                rintro e w7 ⟨rfl, hC7, hm7⟩
                obtain ⟨R, N2, FC7, hN2, hok7, hFC7, hS7⟩ : ∃ R N2 FC7, N2 ≤ i + 1 ∧ PlnOk F R T ∧ (∀ k, FC7 k → k < w4.heap.size ∨ w6.heap.size ≤ k) ∧ OwS w2 wr.heap.size w4.heap.size w6.heap.size F T rows b gT gM N R b' gT' gM' N2 qs qR qA Q FC7 w7 :=
                  ⟨_, _, _, by omega, put_keeps hok.out _, hFl4.out w7, hac.out _ _ _ _ hC7 hm7⟩
              all_goals
                clear hC7 hm7 htk hpu hac hFl4
                replace hok7 := Lib.hid hok7
                replace hFC7 := Lib.hid hFC7
                generalize wr.heap.size = lo0 at hS7 hz2 hz4
                generalize w4.heap.size = lo at hS7 hFC7 hz4
                generalize w6.heap.size = hi at hS7 hFC7
                have hro := (hS7.pp hok.out hTl hgp1.out).routes
                replace hS7 := Lib.hid hS7
                go_wp2_with fail
                refine hro.mono ?_
                intro e w8 hR
                obtain ⟨hb8, qR2, dR2, rfl, _, hR8⟩ := hR.at_
                have hS8 := hS7.out.below hb8
                have hsm := Lib.hid (RsAt.sameE (c := dR2) (d := dR) hR8 hS8.rs (by omega))
                replace hS8 := Lib.hid hS8
                clear hro hR hb8 hR8 hS7
                go_wp2_with fail
                refine hsm.out.mono ?_
                rintro e w9 ⟨rfl, hb9⟩
                have hS9 := Lib.hid (hS8.out.below hb9)
                have hal := (hS9.out.pp hok.out hTl hgp1.out).allE (R := Q) (by omega) hQ.out
                unfold AqPost at hal
                clear hb9 hsm hS8
                go_wp2_with fail
                refine hal.mono ?_
                rintro e w10 ⟨⟨qA2, dA2, rfl, _, hA2, _⟩, hb10⟩
                have hS10 := hS9.out.below hb10
                have hin := Lib.hid (rints_E qA2 qA dA2 dA Q w10 hA2 hS10.ia)
                replace hS10 := Lib.hid hS10
                clear hal hb10 hA2 hS9
                go_wp2_with fail
                refine hin.out.mono ?_
                rintro e w11 ⟨rfl, hb11⟩
                have hS11 := Lib.hid (hS10.out.below hb11)
                clear hin hb11 hS10
                obtain ⟨aR, eR⟩ := hS11.out.rw.1.some_of (k := 0) (by rw [rsV_size]; omega)
                subst eR
                go_wp2_with fail
                go_loopw [18] (fun s18 wx => ∃ j : Nat, j ≤ rows.length ∧ s18 = .int .i64 j ∧ RwE lo hi rows qs (some aR) wx ∧ InE lo hi Q.length qA wx ∧ Mod (fun k => lo ≤ k ∧ k < hi) w11 wx) (fun s18 _ => rows.length - (intOf s18).toNat)
                case atStart => exact ⟨0, Nat.zero_le _, rfl, hS11.out.rw, hS11.out.il, Mod.refl _ _⟩
                case round =>
                  obtain ⟨j, hj, rfl, hRw, hIn, hm⟩ := hrel
                  by_cases hjl : j < rows.length
                  · have hjI : (j : Int) < (rows.length : Int) := by omega
                    have hj0 : (0 : Int) ≤ (j : Int) := by omega
                    have s3 : IntKind.i64.wrap ((j : Int) + 1) = (j : Int) + 1 := IntWalk.i64_in _ (by omega)
                    obtain ⟨ln, hln⟩ : ∃ ln, (rows.getD j []).length = ln := ⟨_, rfl⟩
                    have hl16 : ln ≤ 16 := by rw [← hln]; exact hrow.out j
                    have hcell := Lib.hid (fun wx (h : RwE lo hi rows qs (some aR) wx) => run_cellSt (rs_cell h.1 (Mod.refl _ _) hjl))
                    have hst := Lib.hid (fun wx (h : RwE lo hi rows qs (some aR) wx) (h0 : 0 < ln) => h.2.2 j hjl (by intro e; rw [e] at hln; simp at hln; omega))
                    rw [hln] at hcell hst
                    replace hln := Lib.hid hln
                    obtain ⟨qi, hqi⟩ : ∃ qi, (qs.getD j (none, 0)).1 = qi := ⟨_, rfl⟩
                    obtain ⟨di, hdi⟩ : ∃ di, (qs.getD j (none, 0)).2 = di := ⟨_, rfl⟩
                    rw [hqi] at hcell hst
                    rw [hdi] at hcell
                    replace hqi := Lib.hid hqi
                    replace hdi := Lib.hid hdi
                    go_wp2_with fail
                    go_loopw [19] (fun s19 wx => ∃ k : Nat, k ≤ ln ∧ s19 = .int .i64 k ∧ RwE lo hi rows qs (some aR) wx ∧ InE lo hi Q.length qA wx ∧ Mod (fun k => lo ≤ k ∧ k < hi) w11 wx) (fun s19 _ => ln - (intOf s19).toNat)
                    case atStart => exact ⟨0, Nat.zero_le _, rfl, hRw, hIn, hm⟩
                    case round =>
                      clear hRw hIn hm
                      obtain ⟨k, hk, rfl, hRw, hIn, hm⟩ := hrel
                      have hcw := Lib.hid (hcell.out _ hRw)
                      by_cases hkl : k < ln
                      · obtain ⟨g, C, e, hg1, hg2, hB, hsz⟩ := hst.out _ hRw (by omega)
                        rw [e] at hcw
                        have hkI : (k : Int) < (ln : Int) := by omega
                        have hk0 : (0 : Int) ≤ (k : Int) := by omega
                        have s4 : IntKind.i64.wrap ((k : Int) + 1) = (k : Int) + 1 := IntWalk.i64_in _ (by omega)
                        have hcs : k * 2 + (#[.int .i64 99, .int .i64 0] : Array Value).size ≤ C.size := by
                          have : (#[.int .i64 99, .int .i64 0] : Array Value).size = 2 := rfl
                          omega
                        have hrl2 := Lib.hid (show RwE lo hi rows qs (some aR) wr ∧ InE lo hi Q.length qA wr ∧ Mod (fun k => lo ≤ k ∧ k < hi) w11 wr from ⟨hRw, hIn, hm⟩)
                        replace hg1 := Lib.hid (show lo ≤ g ∧ g < hi from ⟨hg1, hg2⟩)
                        clear hRw hIn hm hg2 e
                        go_wp2_with (first | (refine wpList_load_v rfl 47 _ rfl (aR.add j) rfl _ hcw.out ?_) | (refine wpList_buildn_v rfl 75 #[(0, .const (.int .i64 99))] rfl #[(0, .int .i64 99)] rfl _ (run_b99 _) ?_) |
                          (refine wpList_v rfl (.pointer (some ⟨g, k * 2, none⟩)) (run_ixSt0 (k := k) rfl rfl rfl hkl) ?_) |
                          (refine wpList_store_part rfl 75 _ _ rfl rfl g (k * 2) rfl C #[.int .i64 99, .int .i64 0] _ hB rfl hcs (by simp [Value.oneCell']) (by kernel_rfl) ?_; intro w6 C6 hB6 hm6 hs6 _))
                        have hrel2 := Lib.hid (show RwE lo hi rows qs (some aR) w6 ∧ InE lo hi Q.length qA w6 ∧ Mod (fun k => lo ≤ k ∧ k < hi) w11 w6 from
                          ⟨hrl2.out.1.store hB hB6 hm6 hs6, hrl2.out.2.1.mod hm6 (fun k2 C2 _ hBi e => blk_ne hBi hB (by decide) e), hrl2.out.2.2.trans (hm6.mono (fun k2 _ (e : k2 = g) => by rw [e]; exact hg1.out))⟩)
                        clear hB6 hm6 hs6 hrl2 hB hcw
                        go_roundw
                        case rel => exact ⟨k + 1, by omega, by simp, hrel2.out.1, hrel2.out.2.1, hrel2.out.2.2⟩
                        case measure => simp [intOf]; omega
                      · obtain rfl : k = ln := by omega
                        have hrel2 := Lib.hid (show RwE lo hi rows qs (some aR) wr ∧ InE lo hi Q.length qA wr ∧ Mod (fun k => lo ≤ k ∧ k < hi) w11 wr from ⟨hRw, hIn, hm⟩)
                        clear hRw hIn hm
                        go_wp2_with (refine wpList_load_v rfl 47 _ rfl (aR.add j) rfl _ hcw.out ?_)
                        go_roundw
                        case rel => exact ⟨j + 1, by omega, by simp, hrel2.out.1, hrel2.out.2.1, hrel2.out.2.2⟩
                        case measure => simp [intOf]; omega
                  · obtain rfl : j = rows.length := by omega
                    clear hRw
                    replace hIn := Lib.hid hIn
                    replace hm := Lib.hid hm
                    go_wp2_with fail
                    go_loopw [20] (fun s20 wx => ∃ k : Nat, k ≤ Q.length ∧ s20 = .int .i64 k ∧ InE lo hi Q.length qA wx ∧ Mod (fun k => lo ≤ k ∧ k < hi) w11 wx) (fun s20 _ => Q.length - (intOf s20).toNat)
                    case atStart => exact ⟨0, Nat.zero_le _, rfl, hIn.out, hm.out⟩
                    case round =>
                      clear hIn hm
                      obtain ⟨k, hk, rfl, hIn, hm⟩ := hrel
                      by_cases hkl : k < Q.length
                      · obtain ⟨g, C, rfl, hg1, hg2, hB, hsz⟩ := hIn (by omega)
                        have hkI : (k : Int) < (Q.length : Int) := by omega
                        have hk0 : (0 : Int) ≤ (k : Int) := by omega
                        have s4 : IntKind.i64.wrap ((k : Int) + 1) = (k : Int) + 1 := IntWalk.i64_in _ (by omega)
                        have hcc := hB.cell (i := k) (Array.getElem?_eq_getElem (by omega))
                        have hfz := hB.froz k
                        generalize C[k]'(by omega) = old at hcc
                        have hB6 := hB.set k (.int .i64 99)
                        have hm6 := (Mod.refl (· = g) wr).setCell (p := ⟨g, k, none⟩) (fun _ => rfl) (.int .i64 99)
                        have hrel2 := Lib.hid (show InE lo hi Q.length (some ⟨g, 0, none⟩) (wr.setCell ⟨g, k, none⟩ (.int .i64 99)) ∧ Mod (fun k => lo ≤ k ∧ k < hi) w11 (wr.setCell ⟨g, k, none⟩ (.int .i64 99)) from
                          ⟨fun _ => ⟨g, _, rfl, hg1, hg2, hB6, by simp; omega⟩, hm.trans (hm6.mono (fun k2 _ (e : k2 = g) => by rw [e]; exact ⟨hg1, hg2⟩))⟩)
                        clear hB6 hm6 hm hIn hB hsz hg1 hg2
                        go_wp2_with (refine wpList_v rfl (.pointer (some ⟨g, k, none⟩)) (run_ixIn0 (k := k) rfl rfl rfl hkl) ?_)
                        go_roundw
                        case rel => exact ⟨k + 1, by omega, by simp, hrel2.out.1, hrel2.out.2⟩
                        case measure => simp [intOf]; omega
                      · obtain rfl : k = Q.length := by omega
                        obtain ⟨⟨Fp2, hp12⟩, hc12, hlow⟩ := hS11.out.erase hm hz4.out hFC7.out hz2.out
                        have hPp := PSt.of hp12 hok.out hTl hgp1.out.1 hgp1.out.2
                        have hPc := Lib.hid (PSt.of hc12 hok7.out hTl hgc.out.1 hgc.out.2)
                        have hho := holds_calls hPp (by omega) q q' d d' (hF.out.below hlow) (hT.out.below hlow)
                        replace hlow := Lib.hid hlow
                        clear hp12 hc12 hPp hIn hm hS11
                        go_wp2_with fail
                        refine hho.mono ?_
                        clear hho
                        rintro e w13 ⟨rfl, hb13⟩
                        replace hPc := Lib.hid (hPc.out.below hb13)
                        replace hlow := Lib.hid (hlow.out.trans (hb13.mono hlow.out.size))
                        have hho := holds_calls hPc.out (by omega) q q' d d' (hF.out.below hlow.out) (hT.out.below hlow.out)
                        clear hb13
                        go_wp2_with fail
                        refine hho.mono ?_
                        clear hho
                        rintro e w14 ⟨rfl, hb14⟩
                        replace hPc := Lib.hid (hPc.out.below hb14)
                        replace hlow := Lib.hid (hlow.out.trans (hb14.mono hlow.out.size))
                        clear hb14
                        go_wp2_with fail
                        go_roundw
                        case rel => exact ⟨i + 1, N2, b', gT', gM', R, by omega, by omega, by simp, rfl, hN2, hPc.out, hlow.out⟩
                        case measure => simp [intOf]; omega
            · replace hb := Lib.hid (hb2w.out.trans (hb.mono hb2w.out.size))
              clear hP hF hT
              by_cases hl : i < acts.length
              · obtain rfl : i = 30 := by omega
                have hltI : (30 : Int) < (acts.length : Int) := by omega
                go_wp2_with fail
                go_ret
                exact ⟨rfl, hb.out⟩
              · obtain rfl : i = acts.length := by omega
                go_wp2_with fail
                go_ret
                exact ⟨rfl, hb.out⟩
end Go.Proofs.YtdmnoogppmckaaaGreat
