/-
  Layer 13: PlanTells: the walk.
-/
import Derived.Test.YtdmnoogppmckaaaGreatBr
import Derived.Test.YtdmnoogppmckaaaGreatCy
import Derived.Test.YtdmnoogppmckaaaGreatAl
namespace Go.Proofs.YtdmnoogppmckaaaGreat
open Go.RowKit

/-- a plan and the document's, of the same routes, apart from each other, in blocks from B on -/
def TwS (B : Nat) (w0 : World) (b gT gM N : Nat) (fl : List Ve) (rows : List Rou2) (t : List Rq) (b2 gR : Nat) (W : World) : Prop :=
  ∃ F G : Nat → Prop, PlanAt W F b gT gM N fl rows t ∧ RplAt W G b2 gR fl rows t ∧ (∀ k, F k → ¬ G k) ∧ PlnOk fl rows t ∧ t.length ≤ 1000 ∧ (∀ k, F k → B ≤ k) ∧ (∀ k, G k → B ≤ k) ∧ B ≤ w0.heap.size ∧ Below B w0 W
theorem pl_own {b gT gM N : Nat} {w : World} {F : Nat → Prop} {fl : List Ve} {rows : List Rou2} {t : List Rq} (h : PlanAt w F b gT gM N fl rows t) : F gT ∧ F gM ∧ ∀ k, F k → k < w.heap.size := by
  obtain ⟨qT, dT, cT, qs, h⟩ := h
  exact ⟨h.fT, h.fM, h.lt⟩
theorem rpl_own {b gR : Nat} {w : World} {F : Nat → Prop} {fl : List Ve} {rows : List Rou2} {t : List Rq} (h : RplAt w F b gR fl rows t) : F gR ∧ ∀ k, F k → k < w.heap.size := by
  obtain ⟨qF, dF, qT, dT, qs, h⟩ := h
  exact ⟨h.fR, h.lt⟩
section
variable {B b gT gM N b2 gR : Nat} {w0 w : World} {fl : List Ve} {rows : List Rou2} {t : List Rq}
theorem TwS.below {w' : World} (h : TwS B w0 b gT gM N fl rows t b2 gR w) (hb : Below w.heap.size w w') : TwS B w0 b gT gM N fl rows t b2 gR w' := by
  obtain ⟨F, G, h1, h2, h3, h4, h5, h6, h7, h8, h9⟩ := h
  exact ⟨F, G, h1.below hb, h2.below hb, h3, h4, h5, h6, h7, h8, h9.trans (hb.mono (Nat.le_trans h8 h9.size))⟩
theorem TwS.pst (h : TwS B w0 b gT gM N fl rows t b2 gR w) : PSt B w b gT gM N fl rows t := by
  obtain ⟨F, G, h1, h2, h3, h4, h5, h6, h7, h8, h9⟩ := h
  obtain ⟨o1, o2, o3⟩ := pl_own h1
  exact ⟨⟨F, h1⟩, h4, h5, ⟨h6 _ o1, h6 _ o2, o3 _ o1, o3 _ o2⟩⟩
theorem TwS.low (h : TwS B w0 b gT gM N fl rows t b2 gR w) : Below B w0 w := by
  obtain ⟨F, G, h1, h2, h3, h4, h5, h6, h7, h8, h9⟩ := h
  exact h9
theorem TwS.put (h : TwS B w0 b gT gM N fl rows t b2 gR w) (hN : N < 1000000) (req : Int) (hq : wf64 req) :
    Calls Tryz.prog 21 #[.pointer (some ⟨b, 0, none⟩), .int .i64 req] w fun e w1 => e = .returned (.tuple #[.int .i64 (pputP fl rows t req).2.1, .int .i64 (pputP fl rows t req).2.2]) ∧
      Calls Tryz.prog 55 #[.pointer (some ⟨b2, 0, none⟩), .int .i64 req] w1 fun e w2 => e = .returned (.tuple #[.int .i64 (pputP fl rows t req).2.1, .int .i64 (pputP fl rows t req).2.2]) ∧ TwS B w0 b gT gM (N + 1) fl (pputP fl rows t req).1 t b2 gR w2 := by
  obtain ⟨F, G, h1, h2, h3, h4, h5, h6, h7, h8, h9⟩ := h
  obtain ⟨o1, o2, o3⟩ := pl_own h1
  obtain ⟨p1, p2⟩ := rpl_own h2
  refine (pput_calls h4 h1 hN req hq).mono ?_
  rintro e w1 ⟨e1, q1, m1⟩
  refine ⟨e1, ?_⟩
  have s1 := m1.size
  have r1 : RplAt w1 G b2 gR fl rows t := h2.mod m1 (fun k hk hG => by
    rcases hk with rfl | rfl
    · exact h3 _ o1 hG
    · exact h3 _ o2 hG)
  refine (rpput_calls h4 r1 req).mono ?_
  rintro e w2 ⟨e2, q2, m2⟩
  have s2 := m2.size
  have hB := h9.size
  refine ⟨e2, _, _, q1.mod m2 (fun k hk hF => ?_), q2, fun k hk hG => ?_, put_keeps h4 req, h5, fun k hk => ?_, fun k hk => ?_, h8, ?_⟩
  · subst hk
    rcases hF with hF | hF
    · exact h3 _ hF p1
    · have := p2 _ p1; omega
  · rcases hk with hk | hk
    · rcases hG with hG | hG
      · exact h3 _ hk hG
      · have := o3 _ hk; omega
    · rcases hG with hG | hG
      · have := p2 _ hG; omega
      · omega
  · rcases hk with hk | hk
    · exact h6 _ hk
    · omega
  · rcases hk with hk | hk
    · exact h7 _ hk
    · omega
  · exact (h9.trans (m1.below (by omega) (fun k hk => by rcases hk with rfl | rfl; exact h6 _ o1; exact h6 _ o2))).trans (m2.below (by omega) (fun k hk => by subst hk; exact h7 _ p1))
theorem TwS.take (h : TwS B w0 b gT gM N fl rows t b2 gR w) (req : Int) (hq : wf64 req) :
    Calls Tryz.prog 22 #[.pointer (some ⟨b, 0, none⟩), .int .i64 req] w fun e w1 => e = .returned (.int .i64 (ptakP rows req).2) ∧
      Calls Tryz.prog 56 #[.pointer (some ⟨b2, 0, none⟩), .int .i64 req] w1 fun e w2 => e = .returned (.int .i64 (ptakP rows req).2) ∧ TwS B w0 b gT gM N fl (ptakP rows req).1 t b2 gR w2 := by
  obtain ⟨F, G, h1, h2, h3, h4, h5, h6, h7, h8, h9⟩ := h
  obtain ⟨o1, o2, o3⟩ := pl_own h1
  obtain ⟨p1, p2⟩ := rpl_own h2
  refine (ptake_calls h4 h1 req hq).mono ?_
  rintro e w1 ⟨e1, q1, m1⟩
  refine ⟨e1, ?_⟩
  have s1 := m1.size
  have r1 : RplAt w1 G b2 gR fl rows t := h2.mod m1 (fun k hk hG => by
    rcases hk with rfl | rfl
    · exact h3 _ o1 hG
    · exact h3 _ o2 hG)
  refine (rptake_calls h4 r1 req).mono ?_
  rintro e w2 ⟨e2, q2, m2⟩
  have s2 := m2.size
  have hB := h9.size
  refine ⟨e2, _, _, q1.mod m2 (fun k hk hF => ?_), q2, fun k hk hG => ?_, take_keeps h4 req, h5, fun k hk => ?_, fun k hk => ?_, h8, ?_⟩
  · subst hk
    rcases hF with hF | hF
    · exact h3 _ hF p1
    · have := p2 _ p1; omega
  · rcases hk with hk | hk
    · rcases hG with hG | hG
      · exact h3 _ hk hG
      · have := o3 _ hk; omega
    · rcases hG with hG | hG
      · have := p2 _ hG; omega
      · omega
  · rcases hk with hk | hk
    · exact h6 _ hk
    · omega
  · rcases hk with hk | hk
    · exact h7 _ hk
    · omega
  · exact (h9.trans (m1.below (by omega) (fun k hk => by rcases hk with rfl | rfl; exact h6 _ o1; exact h6 _ o2))).trans (m2.below (by omega) (fun k hk => by subst hk; exact h7 _ p1))
theorem TwS.price (h : TwS B w0 b gT gM N fl rows t b2 gR w) (req : Int) (hq : wf64 req) :
    Calls Tryz.prog 14 #[.pointer (some ⟨b, 0, none⟩), .int .i64 req] w fun e w1 => e = .returned (.tuple #[.int .i64 (prcP fl rows t req).1, .int .i64 (prcP fl rows t req).2.1, .int .i64 (prcP fl rows t req).2.2]) ∧
      Calls Tryz.prog 57 #[.pointer (some ⟨b2, 0, none⟩), .int .i64 req] w1 fun e w2 => e = .returned (.tuple #[.int .i64 (prcP fl rows t req).1, .int .i64 (prcP fl rows t req).2.1, .int .i64 (prcP fl rows t req).2.2]) ∧ TwS B w0 b gT gM N fl rows t b2 gR w2 := by
  have hh := h
  obtain ⟨F, G, h1, h2, h3, h4, h5, h6, h7, h8, h9⟩ := h
  refine (price_calls h1 req hq).mono ?_
  rintro e w1 ⟨e1, m1⟩
  refine ⟨e1, ?_⟩
  refine (rprc_calls h4 (h2.below m1) req).mono ?_
  rintro e w2 ⟨e2, m2⟩
  exact ⟨e2, (hh.below m1).below m2⟩
theorem TwS.copy (h : TwS B w0 b gT gM N fl rows t b2 gR w) :
    Calls Tryz.prog 24 #[.pointer (some ⟨b, 0, none⟩)] w fun e w' => ∃ b' gT' gM', e = .returned (.pointer (some ⟨b', 0, none⟩)) ∧ TwS B w0 b' gT' gM' N fl rows t b2 gR w' := by
  obtain ⟨F, G, h1, h2, h3, h4, h5, h6, h7, h8, h9⟩ := h
  obtain ⟨o1, o2, o3⟩ := pl_own h1
  obtain ⟨p1, p2⟩ := rpl_own h2
  refine (copy_calls h1 h4.many.1 (fun i => Nat.le_trans (h4.row i) (by omega))).mono ?_
  rintro e w' ⟨b', gT', gM', e1, q1, c1, c2, hb⟩
  have hB := h9.size
  refine ⟨b', gT', gM', e1, _, G, q1, h2.below hb, fun k hk hG => ?_, h4, h5, fun k hk => ?_, h7, h8, h9.trans (hb.mono (by omega))⟩
  · rcases hk with hk | hk
    · exact h3 _ hk hG
    · have := p2 _ hG; omega
  · rcases hk with hk | hk
    · exact h6 _ hk
    · omega
theorem TwS.alike (h : TwS B w0 b gT gM N fl rows t b2 gR w) (hN : N ≤ 100000) :
    Calls Tryz.prog 11 #[.pointer (some ⟨b, 0, none⟩), .pointer (some ⟨b2, 0, none⟩)] w fun e w' => e = .returned (.bool true) ∧ TwS B w0 b gT gM N fl rows t b2 gR w' := by
  have hh := h
  have hp := h.pst
  obtain ⟨F, G, h1, h2, h3, h4, h5, h6, h7, h8, h9⟩ := h
  refine (alike_calls hp hN h2).mono ?_
  rintro e w' ⟨e1, hb⟩
  exact ⟨e1, hh.below hb⟩
end
set_option maxHeartbeats 4000000 in
set_option maxRecDepth 100000 in
theorem does_calls {B b gT gM N b2 gR : Nat} {w0 w : World} {fl : List Ve} {rows : List Rou2} {t : List Rq} (h : TwS B w0 b gT gM N fl rows t b2 gR w) (hN : N < 1000) (x y : Int) (hx : 0 ≤ x ∧ x < 256) (hy : 0 ≤ y ∧ y < 256) :
    Calls Tryz.prog 25 #[.pointer (some ⟨b, 0, none⟩), .pointer (some ⟨b2, 0, none⟩), .agg (acV (x, y)).toArray] w fun e w' => e = .returned (.bool true) ∧ ∃ N' rows', N' ≤ N + 1 ∧ TwS B w0 b gT gM N' fl rows' t b2 gR w' := by
  have hB1 := Blk.new w (acV (x, y)).toArray 64
  have hh := h.below (new_below w (.cells (acV (x, y)).toArray 64))
  have e1 := Int.emod_nonneg y (show (12 : Int) ≠ 0 by omega)
  have e2 := Int.emod_lt_of_pos y (show (0 : Int) < 12 by omega)
  have e3 := Int.emod_nonneg x (show (4 : Int) ≠ 0 by omega)
  have e4 := Int.emod_lt_of_pos x (show (0 : Int) < 4 by omega)
  have s2 : IntKind.i64.wrap (y % 12 - 1) = y % 12 - 1 := IntWalk.i64_in _ (by omega)
  have hw : wf64 (y % 12 - 1) := by unfold wf64; omega
  have c0 := hB1.cell (i := 0) (v := .int .u8 x) rfl
  have c1 := hB1.cell (i := 1) (v := .int .u8 y) rfl
  have htk := Lib.hid (hh.take (y % 12 - 1) hw)
  have hpu := Lib.hid (hh.put (by omega) (y % 12 - 1) hw)
  have hpr := Lib.hid (hh.price (y % 12 - 1) hw)
  clear h hB1 hh hw
  go_enter Tryz.func25, Tryz.ntmps25
  by_cases hx0 : x % 4 = 0
  · have hd0 : (x % 4 == 0) = true := beq_iff_eq.2 hx0
    clear htk hpr
    obtain ⟨R1, z1, z2, hP⟩ : ∃ R1 z1 z2, pputP fl rows t (y % 12 - 1) = (R1, z1, z2) := ⟨_, _, _, rfl⟩
    rw [hP] at hpu
    dsimp only at hpu
    clear hP
    go_wp2_with fail
    refine hpu.out.mono ?_
    rintro e w1 ⟨rfl, hq⟩
    replace hq := Lib.hid hq
    clear hpu
    go_wp2_with fail
    refine hq.out.mono ?_
    rintro e w2 ⟨rfl, hT⟩
    replace hT := Lib.hid hT
    clear hq
    go_wp2_with fail
    go_ret
    exact ⟨rfl, N + 1, R1, by omega, hT.out⟩
  have hd0 : (x % 4 == 0) = false := beq_eq_false_iff_ne.2 hx0
  by_cases hx1 : x % 4 = 1
  · have hd1 : (x % 4 == 1) = true := beq_iff_eq.2 hx1
    clear hpu hpr
    obtain ⟨R1, z1, hP⟩ : ∃ R1 z1, ptakP rows (y % 12 - 1) = (R1, z1) := ⟨_, _, rfl⟩
    rw [hP] at htk
    dsimp only at htk
    clear hP
    go_wp2_with fail
    refine htk.out.mono ?_
    rintro e w1 ⟨rfl, hq⟩
    replace hq := Lib.hid hq
    clear htk
    go_wp2_with fail
    refine hq.out.mono ?_
    rintro e w2 ⟨rfl, hT⟩
    replace hT := Lib.hid hT
    clear hq
    go_wp2_with fail
    go_ret
    exact ⟨rfl, N, R1, by omega, hT.out⟩
  have hd1 : (x % 4 == 1) = false := beq_eq_false_iff_ne.2 hx1
  clear hpu htk
  obtain ⟨z1, z2, z3, hP⟩ : ∃ z1 z2 z3, prcP fl rows t (y % 12 - 1) = (z1, z2, z3) := ⟨_, _, _, rfl⟩
  rw [hP] at hpr
  dsimp only at hpr
  clear hP
  go_wp2_with fail
  refine hpr.out.mono ?_
  rintro e w1 ⟨rfl, hq⟩
  replace hq := Lib.hid hq
  clear hpr
  go_wp2_with fail
  refine hq.out.mono ?_
  rintro e w2 ⟨rfl, hT⟩
  replace hT := Lib.hid hT
  clear hq
  go_wp2_with fail
  go_ret
  exact ⟨rfl, N, rows, by omega, hT.out⟩
set_option maxHeartbeats 8000000 in
set_option maxRecDepth 100000 in
theorem PlanTells_walk (p : Option Addr) (c : Nat) (B : List Int) (n wd k f : Int) (pA : Option Addr) (cA : Nat) (acts : List (Int × Int)) (w : World) (hA : DrA w p B n wd) (hf : 0 ≤ f ∧ f < 256) (hE : Els w pA 2 ((acts.take 30).map acV)) (hbl : acts.length ≤ 9223372036854775807) (hr : AcRg acts) :
    Calls Tryz.prog 6 #[.agg (ptC p c B n wd k f), .slice pA acts.length cA] w fun e w' => e = .returned (.bool true) ∧ Below w.heap.size w w' := by
  have hnc := pt_newC B n wd f hf hA.nb
  have hTl : (ptT B n wd).length ≤ 1000 := by
    have : (ptT B n wd).length = ptN n := drT_len _ _ _ _
    have := hA.nb
    unfold ptN at *
    omega
  have hFl : (ptF B n f).length ≤ 1000 := by have := (newC_ok0 hnc).1; omega
  obtain ⟨C, hC⟩ : ∃ C, ptC p c B n wd k f = C := ⟨_, rfl⟩
  have hc5 : C.size = 5 := by rw [← hC]; rfl
  have hpt := Lib.hid (fun wx (hb : Below w.heap.size w wx) => ptparts_calls p c B n wd k f wx (hA.below hb) hf)
  rw [hC] at hpt ⊢
  unfold PtPost at hpt
  have hl0 := Lib.hid (run_load_row (P := Tryz.prog) _ w.heap.size 38 C _ _ (Blk.new w C 38) Tryz.underlying38 rfl (by rw [hc5]; kernel_rfl))
  have hb0 := Lib.hid (new_below w (.cells C 38))
  replace hE := Lib.hid hE
  replace hr := Lib.hid hr
  replace hc5 := Lib.hid hc5
  clear hC hA
  generalize ptF B n f = F at *
  generalize ptT B n wd = T at *
  go_enter Tryz.func6, Tryz.ntmps6
  go_wp2_with (refine wpList_load_v rfl 38 _ rfl ⟨w.heap.size, 0, none⟩ rfl _ hl0.out ?_)
  refine (hpt.out _ hb0.out).mono ?_
  rintro e w1 ⟨⟨q, d, q', d', rfl, hd, hd', hF, hT, hqf, hqf'⟩, hb1⟩
  have hnew := Lib.hid (pnew_calls q q' d d' F T w1 hF hFl hT hTl)
  have hrn := Lib.hid (fun wx (hb : Below w1.heap.size w1 wx) => rnew_calls q q' d d' F T wx (hF.below hb) hFl (hT.below hb) hTl)
  unfold NwPost at hnew
  unfold RnPost at hrn
  have hb1w := Lib.hid (hb0.out.trans (hb1.mono hb0.out.size))
  clear hb1 hpt hl0 hb0 hqf hqf' hF hT
  go_wp2_with fail
  refine hnew.out.mono ?_
  rintro e w2 ⟨hb2, hor⟩
  rcases hor with ⟨h, _⟩ | ⟨_, b, gT, gM, G, rfl, hG, hPl⟩
  · exact absurd hnc h
  have hrn2 := Lib.hid (hrn.out w2 hb2)
  have hP := Lib.hid (show PlanAt w2 G b gT gM 0 F (rows0 F) T ∧ (∀ k, G k → w1.heap.size ≤ k) ∧ Below w1.heap.size w1 w2 from ⟨hPl, hG, hb2⟩)
  clear hG hPl hnew hrn hb2
  go_wp2_with fail
  refine hrn2.out.mono ?_
  rintro e w3 ⟨hb3, hor⟩
  rcases hor with ⟨h, _⟩ | ⟨_, b2, gR, G2, rfl, hG2, hR⟩
  · exact absurd hnc h
  have hTw : TwS w1.heap.size w1 b gT gM 0 F (rows0 F) T b2 gR w3 := by
    obtain ⟨h1, h2, h3⟩ := hP.out
    have hs2 := h3.size
    exact ⟨G, G2, h1.below hb3, hR, fun k hk hg => by have := (pl_own h1).2.2 _ hk; have := hG2 _ hg; omega, ok0 hnc, hTl, h2, fun k hk => Nat.le_trans hs2 (hG2 _ hk), Nat.le_refl _, h3.trans (hb3.mono hs2)⟩
  replace hTw := Lib.hid hTw
  clear hb3 hR hG2 hP hrn2
  go_wp2_with fail
  refine (works13_calls _).mono ?_
  rintro e w4 ⟨rfl, hb4⟩
  replace hTw := Lib.hid (hTw.out.below hb4)
  clear hb4
  go_wp2_with fail
  go_loopw [7, 11] (fun s7 s11 wx => ∃ (i N b gT gM : Nat) (rows : List Rou2), i ≤ acts.length ∧ i ≤ 30 ∧ s11 = .int .i64 i ∧ s7 = .pointer (some ⟨b, 0, none⟩) ∧ N ≤ i ∧ TwS w1.heap.size w1 b gT gM N F rows T b2 gR wx) (fun _ s11 _ => acts.length - (intOf s11).toNat)
  case atStart => exact ⟨0, 0, b, gT, gM, _, Nat.zero_le _, by omega, rfl, rfl, Nat.le_refl _, hTw.out⟩
  case round =>
    clear hTw
    obtain ⟨i, N, b', gT', gM', rows, hi, hi30, rfl, rfl, hN, hTw⟩ := hrel
    have hbw := hb1w.out.trans (hTw.low.mono hb1w.out.size)
    by_cases hlt : i < acts.length ∧ i < 30
    · have hltI : (i : Int) < (acts.length : Int) := by omega
      have hlt30 : (i : Int) < 30 := by omega
      have hk0 : (0 : Int) ≤ (i : Int) := by omega
      have s1 : IntKind.i64.wrap ((i : Int) + 1) = (i : Int) + 1 := IntWalk.i64_in _ (by omega)
      obtain ⟨a, rfl⟩ := (hE.out.below hbw).some_of (k := i) (by simp; omega)
      have c0 := (hE.out.below hbw).cells a rfl i (acV acts[i]) 0 (.int .u8 acts[i].1) (by rw [List.getElem?_map, List.getElem?_take_of_lt hlt.2, List.getElem?_eq_getElem hlt.1]; rfl) rfl
      rw [Nat.add_zero] at c0
      have hla := Lib.hid (fun wx (hb : Below w.heap.size w wx) => (show (loadVar 64 (a.add (i * 2))).run Tryz.prog wx = .ok (.agg (acV acts[i]).toArray) wx from by
        have := (hE.out.below hb).load (P := Tryz.prog) (a := a) rfl (k := i) (by simp; omega) (ty := 64) Tryz.underlying64 rfl (by kernel_rfl)
        rw [List.getElem_map, List.getElem_take] at this
        exact this))
      have hrg := hr.out _ (List.getElem_mem hlt.1)
      obtain ⟨x, y, hxy⟩ : ∃ x y, acts[i] = (x, y) := ⟨_, _, rfl⟩
      rw [hxy] at c0 hla hrg
      dsimp only at c0 hrg
      clear hxy
      have e3 := Int.emod_nonneg x (show (4 : Int) ≠ 0 by omega)
      have e4 := Int.emod_lt_of_pos x (show (0 : Int) < 4 by omega)
      have hdo := Lib.hid (fun (b gT gM : Nat) (wx : World) (h : TwS w1.heap.size w1 b gT gM N F rows T b2 gR wx) => does_calls h (by omega) x y hrg.1 hrg.2)
      obtain ⟨VA, hVA⟩ : ∃ VA, (acV (x, y)).toArray = VA := ⟨_, rfl⟩
      rw [hVA] at hla hdo
      clear hVA
      obtain ⟨hx1, hy1⟩ := hrg
      obtain ⟨hx1, hx2⟩ := hx1
      have hTb := Lib.hid hTw
      by_cases hx : x % 4 = 3
      · have hd3 : (x % 4 == 3) = true := beq_iff_eq.2 hx
        have hcp := Lib.hid (hTw.copy)
        clear hTw hbw hTb
        go_wp2_with fail
        refine hcp.out.mono ?_
        clear hcp
        rintro e w5 ⟨b5, gT5, gM5, rfl, hTw⟩
        have hbw := hb1w.out.trans (hTw.low.mono hb1w.out.size)
        have hl5 := Lib.hid (hla.out _ hbw)
        have hdo5 := Lib.hid (hdo.out _ _ _ _ hTw)
        clear hTw hbw hdo hla c0
        go_wp2_with (first | (refine wpList_load_v rfl 64 _ rfl (a.add (i * 2)) rfl _ hl5.out ?_))
        refine hdo5.out.mono ?_
        rintro e w6 ⟨rfl, N', rows', hN', hT6⟩
        have hal := Lib.hid (hT6.alike (by omega))
        clear hdo5 hT6 hl5
        go_wp2_with fail
        refine hal.out.mono ?_
        rintro e w7 ⟨rfl, hT7⟩
        replace hT7 := Lib.hid hT7
        clear hal
        go_wp2_with fail
        go_roundw
        case rel => exact ⟨i + 1, N', b5, gT5, gM5, rows', by omega, by omega, by simp, rfl, by omega, hT7.out⟩
        case measure => simp [intOf]; omega
      · have hd3 : (x % 4 == 3) = false := beq_eq_false_iff_ne.2 hx
        have hl5 := Lib.hid (hla.out _ hbw)
        have hdo5 := Lib.hid (hdo.out _ _ _ _ hTw)
        clear hTw hbw hdo hla hTb
        go_wp2_with (first | (refine wpList_load_v rfl 64 _ rfl (a.add (i * 2)) rfl _ hl5.out ?_))
        refine hdo5.out.mono ?_
        rintro e w6 ⟨rfl, N', rows', hN', hT6⟩
        have hal := Lib.hid (hT6.alike (by omega))
        clear hdo5 hT6 hl5
        go_wp2_with fail
        refine hal.out.mono ?_
        rintro e w7 ⟨rfl, hT7⟩
        replace hT7 := Lib.hid hT7
        clear hal
        go_wp2_with fail
        go_roundw
        case rel => exact ⟨i + 1, N', b', gT', gM', rows', by omega, by omega, by simp, rfl, by omega, hT7.out⟩
        case measure => simp [intOf]; omega
    · have hal := Lib.hid (hTw.alike (by omega))
      have hfin := Lib.hid (fun wx (h : TwS w1.heap.size w1 b' gT' gM' N F rows T b2 gR wx) => hb1w.out.trans (h.low.mono hb1w.out.size))
      clear hTw hbw
      by_cases hl : i < acts.length
      · obtain rfl : i = 30 := by omega
        have hltI : (30 : Int) < (acts.length : Int) := by omega
        go_wp2_with fail
        refine hal.out.mono ?_
        rintro e w7 ⟨rfl, hT7⟩
        have hf7 := Lib.hid (hfin.out _ hT7)
        clear hal hT7 hfin
        go_wp2_with fail
        go_ret
        exact ⟨rfl, hf7.out⟩
      · obtain rfl : i = acts.length := by omega
        go_wp2_with fail
        refine hal.out.mono ?_
        rintro e w7 ⟨rfl, hT7⟩
        have hf7 := Lib.hid (hfin.out _ hT7)
        clear hal hT7 hfin
        go_wp2_with fail
        go_ret
        exact ⟨rfl, hf7.out⟩
end Go.Proofs.YtdmnoogppmckaaaGreat
