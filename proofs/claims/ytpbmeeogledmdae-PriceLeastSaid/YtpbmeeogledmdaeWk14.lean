/-
  Layer 14: price.Brute and price.Least by what price.least finds; the chapter's examples (works).
-/
import Derived.Test.YtpbmeeogledmdaeLz14
namespace Go.Proofs.Ytpbmeeogledmdae
open Go.RowKit

set_option maxHeartbeats 1000000 in
set_option maxRecDepth 100000 in
theorem brute_calls {q r q' : Option Addr} {n d k dr m d' : Nat} {req : Int} (w : World) (s : Wy4) (h : Calls Try.prog 37 #[.slice q n d, .slice r k dr, .slice q' m d', .int .i64 req] w fun e w' => e = .returned (.tuple #[.agg (wyC s), .int .u64 s.2]) ∧ Below w.heap.size w w') :
    Calls Try.prog 17 #[.slice q n d, .slice r k dr, .slice q' m d', .int .i64 req] w fun e w' => e = .returned (.int .u64 s.2) ∧ Below w.heap.size w w' := by
  replace h := Lib.hid h
  go_enter Try.func17, Try.ntmps17
  go_wp2_with fail
  refine h.out.mono ?_
  rintro e w1 ⟨rfl, hb⟩
  have hb1 := Lib.hid (hb.alloc hb.size (.cells (wyC s) 109))
  clear hb h
  unfold wyC at *
  go_wp2
  go_ret
  exact ⟨rfl, hb1.out⟩
theorem run_callNone {ρ : Operand → Value} {o : Oper} {w : World} (ho : o.op = .call { callee := .value (.func 38), args := #[], argTypes := #[] })
    (hf : ρ (.func 38) = .func (.func 38) #[] #[] := by rfl) : (execOp ρ o).run Try.prog w = .ok (.enter 38 #[]) w := by
  unfold execOp
  simp only [ho]
  go_simp
theorem run_eqlWX {ρ : Operand → Value} {o : Oper} {w : World} {x y : Operand} (ho : o.op = .binOp .eql 109 x y 109) (hx : ρ x = .agg #[.int .i64 1, .int .i64 0, .int .i64 0]) (hy : ρ y = .agg #[.int .i64 (-1), .int .i64 0, .int .i64 0]) :
    (execOp ρ o).run Try.prog w = .ok (.value (.bool false)) w := by
  have h : (binOp .eql 109 (.agg #[.int .i64 1, .int .i64 0, .int .i64 0]) (.agg #[.int .i64 (-1), .int .i64 0, .int .i64 0])).run Try.prog w = .ok (.bool false) w := by kernel_rfl
  unfold execOp
  simp only [ho, hx, hy]
  go_simp
set_option maxHeartbeats 2000000 in
set_option maxRecDepth 100000 in
theorem pleastX_calls {q r q' : Option Addr} {n d k dr m d' : Nat} {req : Int} (w : World) (h : Calls Try.prog 37 #[.slice q n d, .slice r k dr, .slice q' m d', .int .i64 req] w fun e w' => e = .returned (.tuple #[.agg (wyC ((1, 0, 0), 20)), .int .u64 20]) ∧ Below w.heap.size w w') :
    Calls Try.prog 15 #[.slice q n d, .slice r k dr, .slice q' m d', .int .i64 req] w fun e w' => e = .returned (.tuple #[.int .i64 1, .int .i64 0, .int .i64 0, .bool true]) ∧ Below w.heap.size w w' := by
  replace h := Lib.hid h
  go_enter Try.func15, Try.ntmps15
  go_wp2_with fail
  refine h.out.mono ?_
  rintro e w1 ⟨rfl, hb⟩
  have hb1 := Lib.hid (hb.alloc hb.size (.cells #[.int .i64 1, .int .i64 0, .int .i64 0] 109))
  have hB := (Blk.new w1 #[.int .i64 1, .int .i64 0, .int .i64 0] 109)
  have hlw := Lib.hid (fun x (h : Mod (fun _ => False) (w1.alloc (.cells #[.int .i64 1, .int .i64 0, .int .i64 0] 109)) x) => run_load_row' (P := Try.prog) x w1.heap.size 109 _ _ _ (hB.mod h (fun h => h)) Try.underlying109 rfl (by kernel_rfl))
  replace hB := Lib.hid hB
  clear hb h
  unfold wyC
  go_upto_region 2 with fail
  refine wp_region_rove (X := Unit) () (fun x => [(22, .agg #[.int .i64 1, .int .i64 0, .int .i64 0]), (23, .agg #[.int .i64 (-1), .int .i64 0, .int .i64 0]), (24, .bool false)])
    (fun x d W' => Mod (fun _ => False) (w1.alloc (.cells #[.int .i64 1, .int .i64 0, .int .i64 0] 109)) W') (by kernel_rfl) (by kernel_rfl) (by kernel_rfl) (by kernel_rfl) (fun x => by kernel_rfl)
    (Mod.refl _ _).drew ?_ ?_
  · intro aF hAF
    have E12 : ∀ x, (aF x).eval (.tmp 12) = .pointer (some ⟨w1.heap.size, 0, none⟩) := by intro x; rw [hAF]; kernel_rfl
    have T22 : ∀ x, (aF x).tmps[22]? = some (.agg #[.int .i64 1, .int .i64 0, .int .i64 0]) := by intro x; rw [hAF]; kernel_rfl
    have E22 : ∀ x, (aF x).eval (.tmp 22) = .agg #[.int .i64 1, .int .i64 0, .int .i64 0] := by intro x; rw [hAF]; kernel_rfl
    have T23 : ∀ x, (aF x).tmps[23]? = some (.agg #[.int .i64 (-1), .int .i64 0, .int .i64 0]) := by intro x; rw [hAF]; kernel_rfl
    have E23 : ∀ x, (aF x).eval (.tmp 23) = .agg #[.int .i64 (-1), .int .i64 0, .int .i64 0] := by intro x; rw [hAF]; kernel_rfl
    have T24 : ∀ x, (aF x).tmps[24]? = some (.bool false) := by intro x; rw [hAF]; kernel_rfl
    have E24 : ∀ x, (aF x).eval (.tmp 24) = .bool false := by intro x; rw [hAF]; kernel_rfl
    replace hAF := Lib.hid hAF
    refine ⟨?_, ?_, ?_, trivial⟩
    · exact opOk3_quiet _ (by intro x t hd _; cases hd; exact T22 x) (fun _ => rfl) fun x d w' hd hc => sv (run_load1 rfl (E12 x) (hlw.out _ hc)) hc
    · exact opOk3_quiet _ (by intro x t hd _; cases hd; exact T23 x) (fun _ => rfl) fun x d w' hd hc => sc (run_callNone rfl) ((none_calls w').mono fun e w'' hq => ⟨hq.1, hc.after hq.2⟩)
    · exact opOk3_quiet _ (by intro x t hd _; cases hd; exact T24 x) (fun _ => rfl) fun x d w' hd hc => sv (run_eqlWX rfl (E22 x) (E23 x)) hc
  · intro x d w' hd hc
    simp only [putAll, List.foldl_cons, List.foldl_nil, Act.put, List.setIfInBounds_toArray, List.set_cons_succ, List.set_cons_zero]
    have hB2 := hB.out.mod hc (fun h => h)
    have hb2 := Lib.hid (hb1.out.trans (hc.below (B := w.heap.size) hb1.out.size (fun _ h => h.elim)))
    have k0 := fun y : Later (fun _ => False) w' => y.cell (hB2.cell (i := 0) (v := .int .i64 1) rfl) (fun h => h)
    have k1 := fun y : Later (fun _ => False) w' => y.cell (hB2.cell (i := 1) (v := .int .i64 0) rfl) (fun h => h)
    have k2 := fun y : Later (fun _ => False) w' => y.cell (hB2.cell (i := 2) (v := .int .i64 0) rfl) (fun h => h)
    clear hB hb1 hlw hc hd hB2
    go_wp2_with fail
    refine wp_region_later (Mod.refl (fun _ => False) w') (by kernel_rfl) (by kernel_rfl) ?_
    repeat (go_big_quiet_step (fail))
    refine wpQuiet_nil ?_
    rintro _ ⟨y, rfl⟩
    have hb3 := Lib.hid (hb2.out.trans (y.mod.below (B := w.heap.size) hb2.out.size (fun _ h => h.elim)))
    clear k0 k1 k2 hb2
    go_wp2_with fail
    exact bodyPost_ret (by simp [results, Try.results15, go_sem]) rfl ⟨rfl, hb3.out⟩
set_option maxHeartbeats 1000000 in
set_option maxRecDepth 100000 in
theorem pbid_calls {B b gT gM N : Nat} {w : World} {fl : List Ve} {rows : List Rou2} {t : List Rq} (h : PSt B w b gT gM N fl rows t) (req : Int) (hq : wf64 req) :
    Calls Try.prog 7 #[.pointer (some ⟨b, 0, none⟩), .int .i64 req] w fun e w' => e = .returned (.int .u64 (bidP fl rows t req)) ∧ Below w.heap.size w w' := by
  have hp := Lib.hid (h.price req hq)
  have hb : (prcP fl rows t req).2.2 = 0 → IntKind.u64.wrap (prcP fl rows t req).2.1 = (prcP fl rows t req).2.1 := fun e => by
    have := rise_bd h.ok e
    exact IntWalk.u64_in _ (by omega)
  unfold bidP
  obtain ⟨x, y, e, hX⟩ : ∃ x y e, prcP fl rows t req = (x, y, e) := ⟨_, _, _, rfl⟩
  rw [hX] at hp hb ⊢
  dsimp only at hp hb ⊢
  clear hX h
  obtain ⟨z, hz⟩ : ∃ z, (if e ≠ 0 then (4294967296 : Int) else y) = z := ⟨_, rfl⟩
  rw [hz]
  replace hz := Lib.hid hz
  go_enter Try.func7, Try.ntmps7
  go_wp2_with fail
  refine hp.out.mono ?_
  clear hp
  rintro e w2 ⟨rfl, hb2⟩
  by_cases he : e = 0
  · subst he
    have hw := hb rfl
    obtain rfl : y = z := by have := hz.out; rwa [if_neg (by omega)] at this
    clear hz hb
    go_wp2_with fail
    go_ret
    exact ⟨rfl, hb2⟩
  · obtain rfl : 4294967296 = z := by have := hz.out; rwa [if_pos he] at this
    clear hz hb
    have d1 : (e == 0) = false := beq_eq_false_iff_ne.2 he
    have d2 : (e != 0) = true := by rw [bne, d1]; rfl
    go_wp2_with fail
    go_ret
    exact ⟨rfl, hb2⟩
def wkF : List Ve := [rqMk [0, 0, 5, 0, 100], rqMk [20, 0, 5, 0, 100]]
def wkT : List Rq := [rqMk [10, 0, 20, 0, 0, 1000, 0, 1000, 1, 0], rqMk [0, 5, 0, 9, 0, 1000, 0, 1000, 1, 0]]
theorem wk_new : newC wkF wkT = 0 := by decide +kernel
theorem wk_bid : bidP wkF (rows0 wkF) wkT 0 = 20 := by decide +kernel
theorem wk_put : pputP wkF (rows0 wkF) wkT 0 = ([[], prL 0], 20, 0) := by decide +kernel
theorem wk_bid2 : bidP wkF [[], prL 0] wkT 0 = 4294967296 := by decide +kernel
theorem wk_r0 : ∀ i, i < 2 → RightV (wkF.getD i ve0) [] wkT := by
  intro i hi
  match i, hi with
  | 0, _ => exact (right_iff _ _ _ _ _ _ _).2 (by decide +kernel)
  | 1, _ => exact (right_iff _ _ _ _ _ _ _).2 (by decide +kernel)
theorem wk_r1 (r : Int) (hr : r = 0 ∨ r = 1) : ∀ i, i < 2 → RightV (wkF.getD i ve0) (prL r) wkT := by
  intro i hi
  rcases hr with rfl | rfl
  · match i, hi with
    | 0, _ => exact (right_iff _ _ _ _ _ _ _).2 (by decide +kernel)
    | 1, _ => exact (right_iff _ _ _ _ _ _ _).2 (by decide +kernel)
  · match i, hi with
    | 0, _ => exact (right_iff _ _ _ _ _ _ _).2 (by decide +kernel)
    | 1, _ => exact (right_iff _ _ _ _ _ _ _).2 (by decide +kernel)
def wk2R (a b : Int) (i : Nat) : Int := if i = 0 then a else b
theorem wk_e0 : ∀ i, i < 2 → (timV (wkF.getD i ve0) [] wkT).2.1 = 0 := by
  intro i hi
  match i, hi with
  | 0, _ => decide +kernel
  | 1, _ => decide +kernel
theorem wk_e1 (r a b : Int) (h : r = 0 ∧ a = 40 ∧ b = 20 ∨ r = 1 ∧ a = 18 ∧ b = 58) : ∀ i, i < 2 → (timV (wkF.getD i ve0) (prL r) wkT).2.1 = 0 + wk2R a b i := by
  intro i hi
  rcases h with ⟨rfl, rfl, rfl⟩ | ⟨rfl, rfl, rfl⟩
  · match i, hi with
    | 0, _ => decide +kernel
    | 1, _ => decide +kernel
  · match i, hi with
    | 0, _ => decide +kernel
    | 1, _ => decide +kernel
theorem tm_known {w w' : World} {R : Tms × Int × Int} {e : Ending} {z : Int} (h : TmPost w R e w') (h0 : R.2.2 = 0) (h1 : R.2.1 = z) : ∃ p n c, e = .returned (.tuple #[.slice p n c, .int .i64 z, .int .i64 0]) ∧ Below w.heap.size w w' := by
  obtain ⟨p, c, he, hb, _⟩ := h
  rw [h0, h1] at he
  exact ⟨p, _, c, he, hb⟩
theorem wyF_of {F : List Ve} {T : List Rq} {q' : Option Addr} {d' : Nat} {w : World} (hT : Els w q' 10 (T.map rqV)) {req : Int} {E R : Nat → Int} (hreq : 0 ≤ req) (hR0 : ∀ i, i < 2 → RightV (F.getD i ve0) [] T) (hR1 : ∀ i, i < 2 → RightV (F.getD i ve0) (prL req) T)
    (hE : ∀ i, i < 2 → (timV (F.getD i ve0) [] T).2.1 = E i) (hN : ∀ i, i < 2 → (timV (F.getD i ve0) (prL req) T).2.1 = E i + R i) (hbd : ∀ i, 0 ≤ E i ∧ E i ≤ 4194304 ∧ 0 ≤ R i ∧ R i ≤ 4194304) :
    WyF w (fun i => .agg (veR (F.getD i ve0)).toArray) q' T.length d' req E R where
  tm0 wx hb i hi := (times_calls (F.getD i ve0 0) (F.getD i ve0 1) (F.getD i ve0 2) (F.getD i ve0 3) (F.getD i ve0 4) none q' 0 d' [] T wx (els_nilP _ _ _) (hT.below hb)).mono fun _ _ h => tm_known h (tm_right (hR0 i hi)).1 (hE i hi)
  wi wx := by
    refine (withN_calls none 0 [] req 0 0 wx (els_nilP _ _ _) (Nat.le_refl _)).mono ?_
    rintro e w' ⟨⟨q, d, rfl, _, h3, _⟩, hb'⟩
    have hw : withP [] req 0 0 = some (prL req) := by
      unfold withP
      rw [if_neg (by simp; omega)]
      rfl
    rw [hw] at h3 ⊢
    exact ⟨q, d, rfl, h3, hb'⟩
  fc wx hb q d hE i hi := (fcheck_calls (F.getD i ve0 0) (F.getD i ve0 1) (F.getD i ve0 2) (F.getD i ve0 3) (F.getD i ve0 4) q q' d d' (prL req) T wx hE (hT.below hb)).mono fun e w' h => ⟨h.1 ((fsB_iff _ _ _ _ _ _ _).2 (hR1 i hi)), h.2.2⟩
  tm1 wx hb q d hEl i hi := (times_calls (F.getD i ve0 0) (F.getD i ve0 1) (F.getD i ve0 2) (F.getD i ve0 3) (F.getD i ve0 4) q q' d d' (prL req) T wx hEl (hT.below hb)).mono fun _ _ h => tm_known h (tm_right (hR1 i hi)).1 (hN i hi)
  bd := hbd
theorem wk_least (w : World) (aV aR : Addr) (q' : Option Addr) (d dr d' : Nat) (hF : Els w (some aV) 5 (wkF.map veR)) (hr : Els w (some aR) 1 no2) (hT : Els w q' 10 (wkT.map rqV)) (r a b : Int) (h : r = 0 ∧ a = 40 ∧ b = 20 ∨ r = 1 ∧ a = 18 ∧ b = 58) :
    Calls Try.prog 37 #[.slice (some aV) 2 d, .slice (some aR) 2 dr, .slice q' 2 d', .int .i64 r] w fun e w' =>
      e = .returned (.tuple #[.agg (wyC ((wyX (wk2R a b)).foldl tkS wy0)), .int .u64 ((wyX (wk2R a b)).foldl tkS wy0).2]) ∧ Below w.heap.size w w' := by
  have hm : ∀ {wx : World}, Below w.heap.size w wx → Mod (fun _ => False) w wx := fun h => (Mod.refl _ _).after h
  have := pleast_calls w (fun i => .agg (veR (wkF.getD i ve0)).toArray) aV aR q' d dr 2 d' r (fun _ => 0) (wk2R a b) true
    (fun wx hb => pmay_calls (some aV) (some aR) q' d dr d' wkF wkT r wx (hF.below hb) rfl (hr.below hb) (hT.below hb) (by decide) (by rcases h with ⟨rfl, _⟩ | ⟨rfl, _⟩ <;> decide) wk_r0)
    (fun _ => wyF_of hT (by omega) wk_r0 (wk_r1 r (by omega)) wk_e0 (wk_e1 r a b h) (fun i => by show (0 : Int) ≤ 0 ∧ (0 : Int) ≤ 4194304 ∧ 0 ≤ wk2R a b i ∧ wk2R a b i ≤ 4194304; unfold wk2R; split <;> omega))
    (fun wx hb i hi => by
      have hiF : i < wkF.length := hi
      have := (hF.below hb).load (P := Try.prog) (a := aV) rfl (k := i) (by simpa using hiF) (ty := 47) Try.underlying47 rfl (by kernel_rfl)
      rw [List.getElem_map] at this
      rw [List.getD_eq_getElem?_getD, List.getElem?_eq_getElem hiF]
      exact this)
    (fun wx hb i hi => run_cellSt (no2_cell hr (hm hb) hi))
  rwa [if_pos rfl] at this
theorem wk_least2 (w : World) (aV aR : Addr) (q' : Option Addr) (d dr d' : Nat) (hF : Els w (some aV) 5 (wkF.map veR)) (hr : Els w (some aR) 1 no2) :
    Calls Try.prog 37 #[.slice (some aV) 2 d, .slice (some aR) 2 dr, .slice q' 2 d', .int .i64 2] w fun e w' => e = .returned (.tuple #[.agg (wyC wy0), .int .u64 wy0.2]) ∧ Below w.heap.size w w' := by
  have hm : ∀ {wx : World}, Below w.heap.size w wx → Mod (fun _ => False) w wx := fun h => (Mod.refl _ _).after h
  have := pleast_calls w (fun i => .agg (veR (wkF.getD i ve0)).toArray) aV aR q' d dr 2 d' 2 (fun _ => 0) (fun _ => 0) false
    (fun wx hb => pmay_no (some aV) (some aR) q' d dr d' wx)
    (fun h => by cases h)
    (fun wx hb i hi => by
      have hiF : i < wkF.length := hi
      have := (hF.below hb).load (P := Try.prog) (a := aV) rfl (k := i) (by simpa using hiF) (ty := 47) Try.underlying47 rfl (by kernel_rfl)
      rw [List.getElem_map] at this
      rw [List.getD_eq_getElem?_getD, List.getElem?_eq_getElem hiF]
      exact this)
    (fun wx hb i hi => run_cellSt (no2_cell hr (hm hb) hi))
  rwa [if_neg (by simp)] at this
def WkS (w wx : World) : Prop :=
  Els wx (some ⟨w.heap.size + 1, 0, none⟩) 5 (wkF.map veR) ∧ Els wx (some ⟨w.heap.size + 1 + 1, 0, none⟩) 10 (wkT.map rqV) ∧ Els wx (some ⟨w.heap.size + 1 + 1 + 1, 0, none⟩) 1 no2 ∧ Below w.heap.size w wx
theorem wk_world (w : World) : WkS w ((((w.alloc (.cells #[.int .i64 0, .int .i64 1000] 59)).alloc (.cells (wkF.map veR).flatten.toArray 47)).alloc (.cells (wkT.map rqV).flatten.toArray 61)).alloc (.cells no2.flatten.toArray 48)) := by
  have h1 := ((Blk.new' w (.cells #[.int .i64 0, .int .i64 1000] 59) (wkF.map veR).flatten.toArray 47).alloc (.cells (wkT.map rqV).flatten.toArray 61)).alloc (.cells no2.flatten.toArray 48)
  have h2 := (Blk.new' (w.alloc (.cells #[.int .i64 0, .int .i64 1000] 59)) (.cells (wkF.map veR).flatten.toArray 47) (wkT.map rqV).flatten.toArray 61).alloc (.cells no2.flatten.toArray 48)
  have h3 := Blk.new' ((w.alloc (.cells #[.int .i64 0, .int .i64 1000] 59)).alloc (.cells (wkF.map veR).flatten.toArray 47)) (.cells (wkT.map rqV).flatten.toArray 61) no2.flatten.toArray 48
  rw [World.size_alloc] at h2
  rw [World.size_alloc, World.size_alloc] at h3
  exact ⟨els_litP h1 (veR_lenP _) (by decide), els_litP h2 (rqV_len _) (by decide), els_litP h3 (by decide) (by decide), (((new_below w _).alloc (by simp) _).alloc (by simp; omega) _).alloc (by simp; omega) _⟩
set_option maxHeartbeats 8000000 in
set_option maxRecDepth 100000 in
theorem works14_calls (w : World) : Calls Try.prog 4 #[] w fun e w' => e = .returned (.bool true) ∧ Below w.heap.size w w' := by
  go_enter Try.func4, Try.ntmps4
  go_upto_region 5 with fail
  refine wp_world' (WkS w) (wk_world w) ?_
  rintro w1 ⟨hF, hT, hR, hb1⟩
  have hle := Lib.hid (fun wx (hb : Below w1.heap.size w1 wx) => wk_least wx ⟨w.heap.size + 1, 0, none⟩ ⟨w.heap.size + 1 + 1 + 1, 0, none⟩ (some ⟨w.heap.size + 1 + 1, 0, none⟩) 2 2 2 (hF.below hb) (hR.below hb) (hT.below hb))
  have hle2 := Lib.hid (fun wx (hb : Below w1.heap.size w1 wx) => brute_calls wx wy0 (wk_least2 wx ⟨w.heap.size + 1, 0, none⟩ ⟨w.heap.size + 1 + 1 + 1, 0, none⟩ (some ⟨w.heap.size + 1 + 1, 0, none⟩) 2 2 2 (hF.below hb) (hR.below hb)))
  have hLe := Lib.hid (pleastX_calls w1 (hle.out w1 (Below.refl _ _) 0 40 20 (.inl ⟨rfl, rfl, rfl⟩)))
  have hnew := Lib.hid (fun wx (hb : Below w1.heap.size w1 wx) => (show Calls Try.prog 16 #[.slice (some ⟨w.heap.size + 1, 0, none⟩) 2 2, .slice (some ⟨w.heap.size + 1 + 1, 0, none⟩) 2 2] wx (NwPost wx wkF wkT) from pnew_calls (some ⟨w.heap.size + 1, 0, none⟩) (some ⟨w.heap.size + 1 + 1, 0, none⟩) 2 2 wkF wkT wx (hF.below hb) (by decide) (hT.below hb) (by decide)))
  unfold NwPost at hnew
  replace hb1 := Lib.hid hb1
  clear hF hT hR
  go_wp2_with fail
  refine hLe.out.mono ?_
  rintro e w2 ⟨rfl, hb2⟩
  have hnw := Lib.hid (hnew.out w2 hb2)
  replace hb2 := Lib.hid hb2
  clear hLe hnew
  go_wp2_with fail
  refine hnw.out.mono ?_
  rintro e w3 ⟨hb3, hor⟩
  rcases hor with ⟨h, _⟩ | ⟨_, b, gT, gM, G, rfl, hG, hPl⟩
  · exact absurd wk_new h
  have hP := PSt.new hG hPl wk_new (by decide)
  have hb3' := Lib.hid (hb2.out.trans (hb3.mono hb2.out.size))
  have hbid := Lib.hid (pbid_calls hP 0 (wf_lit (by omega)))
  rw [wk_bid] at hbid
  replace hP := Lib.hid hP
  clear hG hPl hnw hb3
  go_wp2_with fail
  refine hbid.out.mono ?_
  clear hbid
  rintro e w4 ⟨rfl, hb4⟩
  have hP4 := hP.out.below hb4
  have hb4' := Lib.hid (hb3'.out.trans (hb4.mono hb3'.out.size))
  have hpu := Lib.hid (hP4.putE (by omega) wk_put (wf_lit (by omega)))
  have hw2 := Lib.hid hb2.out.size
  clear hP hb4 hP4 hb3' hb2
  go_wp2_with fail
  refine hpu.out.mono ?_
  clear hpu
  rintro e w5 ⟨rfl, hP5, hb5⟩
  have hb5' := Lib.hid (hb4'.out.trans (hb5.mono hw2.out))
  have hbid := fun wx (hb : Below w5.heap.size w5 wx) => pbid_calls (hP5.below hb) 0 (wf_lit (by omega))
  rw [wk_bid2] at hbid
  replace hbid := Lib.hid hbid
  have hB0 := Lib.hid (brute_calls w5 _ (hle.out w5 hb5'.out 0 40 20 (.inl ⟨rfl, rfl, rfl⟩)))
  clear hP5 hb5 hb4'
  go_wp2_with fail
  refine hB0.out.mono ?_
  clear hB0
  rintro e w6 ⟨rfl, hb6⟩
  have hb6' := Lib.hid (hb5'.out.trans (hb6.mono hb5'.out.size))
  have hB1 := Lib.hid (brute_calls w6 _ (hle.out w6 hb6'.out 1 18 58 (.inr ⟨rfl, rfl, rfl⟩)))
  replace hb6 := Lib.hid hb6
  go_wp2_with fail
  refine hB1.out.mono ?_
  clear hB1
  rintro e w7 ⟨rfl, hb7⟩
  have hb7' := Lib.hid (hb6'.out.trans (hb7.mono hb6'.out.size))
  have hb57 := Lib.hid (hb6.out.trans (hb7.mono hb6.out.size))
  have hB2 := Lib.hid (hle2.out w7 hb7'.out)
  clear hb6 hb7
  go_wp2_with fail
  refine hB2.out.mono ?_
  clear hB2
  rintro e w8 ⟨rfl, hb8⟩
  have hb8' := Lib.hid (hb7'.out.trans (hb8.mono hb7'.out.size))
  have hb58 := hb57.out.trans (hb8.mono hb57.out.size)
  have hBd := Lib.hid (hbid.out w8 hb58)
  clear hb8 hb58 hb57 hbid
  go_wp2_with fail
  refine hBd.out.mono ?_
  clear hBd
  rintro e w9 ⟨rfl, hb9⟩
  have hb9' := Lib.hid (hb8'.out.trans (hb9.mono hb8'.out.size))
  clear hb9
  go_wp2_with fail
  go_ret
  exact ⟨rfl, hb1.out.trans (hb9'.out.mono hb1.out.size)⟩
end Go.Proofs.Ytpbmeeogledmdae
