/-
  Layer 13: a plan as the statements hold it.
  Layer 13: the chapter's examples, in plain words.
  Layer 13: works.
  Layer 13: done: a plan behind puts and takes.
-/
import Derived.Test.YtpbmeeogledmdaeSp
import Derived.Test.YtpbmeeogledmdaePh
namespace Go.Proofs.Ytpbmeeogledmdae
open Go.RowKit

theorem ds_same (x y : Int) : dsP x y x y = 0 := by
  unfold dsP ap1
  split
  · simp
  · rfl
theorem right_nil {v : Ve} {t : List Rq} (hv : vehV v = 0) (ht : ∀ q ∈ t, rqE q = 0) : RightV v [] t := by
  refine ⟨hv, ht, by simp, ?_, fun s hs => (by cases hs), fun k hk => by simp at hk, [], v 0, v 1, v 3, rfl, ?_⟩
  · intro r
    exact .inl rfl
  · rw [ds_same]
    unfold vehV vehCode firstV at hv
    split at hv
    · cases hv
    · split at hv
      · cases hv
      · rename_i h1 h2
        simp at h2
        omega
theorem newC_ok0 {fl : List Ve} {t : List Rq} (h : newC fl t = 0) : (1 ≤ fl.length ∧ fl.length ≤ 4) ∧ (∀ v ∈ fl, vehV v = 0) ∧ ∀ q ∈ t, rqE q = 0 := by
  unfold newC at h
  split at h
  · cases h
  · split at h
    · cases h
    · split at h
      · cases h
      · rename_i h1 h2 h3
        simp only [List.any_eq_true, not_exists, not_and, bne_iff_ne, ne_eq, Decidable.not_not] at h2 h3
        exact ⟨by omega, h2, h3⟩
theorem ok0 {fl : List Ve} {t : List Rq} (h : newC fl t = 0) : PlnOk fl (rows0 fl) t := by
  obtain ⟨h1, h2, h3⟩ := newC_ok0 h
  refine ⟨by simp [rows0], h1, h2, h3, fun i hi => ?_, fun i j s s' hs => ?_⟩
  · rw [rows0_at]
    refine right_nil (h2 _ ?_) h3
    rw [List.getD_eq_getElem?_getD, List.getElem?_eq_getElem hi]
    exact List.getElem_mem hi
  · rw [rows0_at] at hs
    cases hs
/-- a plan that changes blocks from B on alone -/
structure PSt (B : Nat) (w : World) (b gT gM N : Nat) (fl : List Ve) (rows : List Rou2) (t : List Rq) : Prop where
  at_ : ∃ F, PlanAt w F b gT gM N fl rows t
  ok : PlnOk fl rows t
  tl : t.length ≤ 1000
  gB : B ≤ gT ∧ B ≤ gM ∧ gT < w.heap.size ∧ gM < w.heap.size
section
variable {B b gT gM N : Nat} {w : World} {fl : List Ve} {rows : List Rou2} {t : List Rq}
theorem PSt.below {w' : World} (h : PSt B w b gT gM N fl rows t) (hb : Below w.heap.size w w') : PSt B w' b gT gM N fl rows t := by
  obtain ⟨⟨F, h1⟩, h2, h3, h4⟩ := h
  have := hb.size
  exact ⟨⟨F, h1.below hb⟩, h2, h3, h4.1, h4.2.1, by omega, by omega⟩
theorem PSt.new {w0 : World} {F : Nat → Prop} (hF : ∀ k, F k → w0.heap.size ≤ k) (h : PlanAt w F b gT gM 0 fl (rows0 fl) t) (hc : newC fl t = 0) (ht : t.length ≤ 1000) : PSt w0.heap.size w b gT gM 0 fl (rows0 fl) t := by
  have h0 := h
  obtain ⟨qT, dT, cT, qs, h1⟩ := h0
  exact ⟨⟨F, h⟩, ok0 hc, ht, hF _ h1.fT, hF _ h1.fM, h1.lt _ h1.fT, h1.lt _ h1.fM⟩
theorem PSt.price (h : PSt B w b gT gM N fl rows t) (req : Int) (hq : wf64 req) : Calls Try.prog 21 #[.pointer (some ⟨b, 0, none⟩), .int .i64 req] w fun e w' => e = .returned (.tuple #[.int .i64 (prcP fl rows t req).1, .int .i64 (prcP fl rows t req).2.1, .int .i64 (prcP fl rows t req).2.2]) ∧ Below w.heap.size w w' := by
  obtain ⟨⟨F, h1⟩, h2, h3, h4⟩ := h
  exact price_calls h1 req hq
theorem PSt.put (h : PSt B w b gT gM N fl rows t) (hN : N < 1000000) (req : Int) (hq : wf64 req) :
    Calls Try.prog 14 #[.pointer (some ⟨b, 0, none⟩), .int .i64 req] w fun e w' => e = .returned (.tuple #[.int .i64 (pputP fl rows t req).2.1, .int .i64 (pputP fl rows t req).2.2]) ∧ PSt B w' b gT gM (N + 1) fl (pputP fl rows t req).1 t ∧ Mod (fun k => k = gT ∨ k = gM) w w' := by
  obtain ⟨⟨F, h1⟩, h2, h3, h4⟩ := h
  refine (pput_calls h2 h1 hN req hq).mono ?_
  rintro e w' ⟨e1, e2, e3⟩
  have := e3.size
  exact ⟨e1, ⟨⟨_, e2⟩, put_keeps h2 req, h3, h4.1, h4.2.1, by omega, by omega⟩, e3⟩
theorem PSt.total (h : PSt B w b gT gM N fl rows t) : Calls Try.prog 13 #[.pointer (some ⟨b, 0, none⟩)] w fun e w' => e = .returned (.int .i64 (totP fl rows t)) ∧ Below w.heap.size w w' := by
  obtain ⟨⟨F, h1⟩, h2, h3, h4⟩ := h
  exact total_calls h2 h1
theorem PSt.row (h : PSt B w b gT gM N fl rows t) (i : Nat) : (rows.getD i []).length ≤ 16 := by
  by_cases hi : i < fl.length
  · exact (h.ok.right i hi).2.2.1
  · rw [List.getD_eq_getElem?_getD, List.getElem?_eq_none (by rw [h.ok.len]; omega)]
    simp
theorem PSt.routes (h : PSt B w b gT gM N fl rows t) : Calls Try.prog 9 #[.pointer (some ⟨b, 0, none⟩)] w (RsPost w rows) := by
  have hr := h.row
  obtain ⟨⟨F, h1⟩, h2, h3, h4⟩ := h
  exact routes_calls h1 (fun i => by have := hr i; omega)
theorem PSt.has (h : PSt B w b gT gM N fl rows t) (req : Int) (hq : wf64 req) : Calls Try.prog 8 #[.pointer (some ⟨b, 0, none⟩), .int .i64 req] w fun e w' => e = .returned (.bool (decide (0 ≤ whereP rows req))) ∧ w = w' := by
  obtain ⟨⟨F, h1⟩, h2, h3, h4⟩ := h
  exact has_calls h1 req hq
theorem PSt.wher (h : PSt B w b gT gM N fl rows t) (req : Int) (hq : wf64 req) : Calls Try.prog 22 #[.pointer (some ⟨b, 0, none⟩), .int .i64 req] w fun e w' => e = .returned (.int .i64 (whereP rows req)) ∧ w = w' := by
  obtain ⟨⟨F, h1⟩, h2, h3, h4⟩ := h
  exact where_calls h1 req hq
end
/-- routes as they lie in rows of their own, from base on -/
def RsAt (w : World) (base : Nat) (q : Option Addr) (rows : List Rou2) : Prop :=
  ∃ qs, Els w q 1 (rsV rows qs rows.length) ∧ (∀ a, q = some a → base ≤ a.block) ∧ ∀ i, i < rows.length → RowI w base (qs.getD i (none, 0)) (rows.getD i [])
theorem RsAt.mod {w w' : World} {base : Nat} {q : Option Addr} {rows : List Rou2} (h : RsAt w base q rows) {S : Nat → Prop} (hm : Mod S w w') (hs : ∀ k, base ≤ k → ¬ S k) : RsAt w' base q rows := by
  obtain ⟨qs, h1, h2, h3⟩ := h
  exact ⟨qs, els_modP h1 hm (fun a ha _ => hs _ (h2 a ha)), h2, fun i hi => (h3 i hi).mod hm (fun g _ hg _ => hs g hg)⟩
theorem RsAt.below {w w' : World} {base : Nat} {q : Option Addr} {rows : List Rou2} (h : RsAt w base q rows) (hb : Below w.heap.size w w') : RsAt w' base q rows := h.mod ((Mod.refl (fun _ => False) w).after hb) (fun _ _ h => h)
theorem RsPost.at_ {w w' : World} {rows : List Rou2} {e : Ending} (h : RsPost w rows e w') : Below w.heap.size w w' ∧ ∃ q d, e = .returned (.slice q rows.length d) ∧ rows.length ≤ d ∧ RsAt w' w.heap.size q rows := by
  obtain ⟨h1, q, d, qs, h2, h3, _, h5, h6, h7, _⟩ := h
  exact ⟨h1, q, d, h2, h3, qs, h5, h6, h7⟩
theorem RsPost.at2 {w w' : World} {rows : List Rou2} {e : Ending} (h : RsPost w rows e w') : Below w.heap.size w w' ∧ ∃ q d qs, e = .returned (.slice q rows.length d) ∧ Els w' q 1 (rsV rows qs rows.length) ∧ (∀ i, i < rows.length → RowI w' w.heap.size (qs.getD i (none, 0)) (rows.getD i [])) ∧ (0 < rows.length → ∃ g C, q = some ⟨g, 0, none⟩ ∧ Blk w' g C 48) ∧ RsAt w' w.heap.size q rows := by
  obtain ⟨h1, q, d, qs, h2, _, _, h5, h6, h7, h8⟩ := h
  exact ⟨h1, q, d, qs, h2, h5, h7, h8, qs, h5, h6, h7⟩
end Go.Proofs.Ytpbmeeogledmdae
namespace Go.Proofs.Ytpbmeeogledmdae

theorem ex_new : newC chF chT = 0 := by decide +kernel
theorem ex_new0 : newC [] chT = 11 := by decide +kernel
theorem ex_p0 : prcP chF (rows0 chF) chT 0 = (0, 20, 0) := by decide +kernel
theorem ex_p1 : prcP chF (rows0 chF) chT 1 = (1, 10, 0) := by decide +kernel
theorem ex_p2 : prcP chF (rows0 chF) chT 2 = (0, 0, 8) := by decide +kernel
theorem ex_u0 : pputP chF (rows0 chF) chT 0 = ([prL 0, []], 20, 0) := by decide +kernel
theorem ex_u1 : pputP chF [prL 0, []] chT 1 = ([prL 0, prL 1], 10, 0) := by decide +kernel
theorem ex_u2 : pputP chF [prL 0, prL 1] chT 1 = ([prL 0, prL 1], 0, 13) := by decide +kernel
theorem ex_all : allQ [prL 0, prL 1] chT = [0, 1] := by decide +kernel
theorem ex_tot : totP chF [prL 0, prL 1] chT = 30 := by decide +kernel
theorem ex_t0 : ptakP [prL 0, prL 1] 0 = ([[], prL 1], 0) := by decide +kernel
theorem ex_t1 : ptakP [[], prL 1] 0 = ([[], prL 1], 12) := by decide +kernel
theorem ex_tot2 : totP chF [[], prL 1] chT = 10 := by decide +kernel
end Go.Proofs.Ytpbmeeogledmdae
namespace Go.Proofs.Ytpbmeeogledmdae
open Go.RowKit

section
variable {B b gT gM N : Nat} {w : World} {fl : List Ve} {rows : List Rou2} {t : List Rq}
theorem PSt.priceE (h : PSt B w b gT gM N fl rows t) {req x y z : Int} (hx : prcP fl rows t req = (x, y, z)) (hq : wf64 req) : Calls Try.prog 21 #[.pointer (some ⟨b, 0, none⟩), .int .i64 req] w fun e w' => e = .returned (.tuple #[.int .i64 x, .int .i64 y, .int .i64 z]) ∧ Below w.heap.size w w' := by
  have := h.price req hq
  rwa [hx] at this
theorem PSt.putE (h : PSt B w b gT gM N fl rows t) (hN : N < 1000000) {req y z : Int} {R : List Rou2} (hx : pputP fl rows t req = (R, y, z)) (hq : wf64 req) :
    Calls Try.prog 14 #[.pointer (some ⟨b, 0, none⟩), .int .i64 req] w fun e w' => e = .returned (.tuple #[.int .i64 y, .int .i64 z]) ∧ PSt B w' b gT gM (N + 1) fl R t ∧ Below B w w' := by
  have h2 := h.put hN req hq
  rw [hx] at h2
  refine h2.mono ?_
  rintro e w' ⟨h1, h3, h4⟩
  exact ⟨h1, h3, h4.below (by have := h.gB; omega) (fun k hk => by have := h.gB; omega)⟩
theorem PSt.totalE (h : PSt B w b gT gM N fl rows t) {z : Int} (hx : totP fl rows t = z) : Calls Try.prog 13 #[.pointer (some ⟨b, 0, none⟩)] w fun e w' => e = .returned (.int .i64 z) ∧ Below w.heap.size w w' := by
  have := h.total
  rwa [hx] at this
theorem PSt.step {w' : World} (h : PSt B w b gT gM N fl rows t) {w0 : World} (hb0 : Below B w0 w) (hle : B ≤ w0.heap.size) (hb : Below w.heap.size w w') : Hid (PSt B w' b gT gM N fl rows t) ∧ Hid (Below B w0 w') :=
  ⟨Lib.hid (h.below hb), Lib.hid (hb0.trans (hb.mono (Nat.le_trans hle hb0.size)))⟩
end
theorem lit_rs {w : World} {B : Nat} {q0 q1 : Option Addr} {X Y : Rou2} (hX : X.length = 2) (hY : Y.length = 2) (hB : B ≤ w.heap.size) (h0 : Els w q0 2 (X.map stV)) (h1 : Els w q1 2 (Y.map stV)) (k0 : ∃ g C, q0 = some ⟨g, 0, none⟩ ∧ B ≤ g ∧ Blk w g C 81) (k1 : ∃ g C, q1 = some ⟨g, 0, none⟩ ∧ B ≤ g ∧ Blk w g C 81) :
    RsAt (w.alloc (.cells #[.slice q0 2 2, .slice q1 2 2] 48)) B (some ⟨w.heap.size, 0, none⟩) [X, Y] := by
  have hm : Mod (fun _ => False) w (w.alloc (.cells #[.slice q0 2 2, .slice q1 2 2] 48)) := (Mod.refl _ _).alloc _
  refine ⟨[(q0, 2), (q1, 2)], ?_, fun a ha => (by cases ha; exact hB), fun i hi => ?_⟩
  · have e : rsV [X, Y] [(q0, 2), (q1, 2)] [X, Y].length = [[.slice q0 2 2], [.slice q1 2 2]] := by
      show [[Value.slice q0 X.length 2], [Value.slice q1 Y.length 2]] = _
      rw [hX, hY]
    rw [e]
    exact els_litP (R := [[.slice q0 2 2], [.slice q1 2 2]]) (n := 1) (Blk.new w _ _) (by intro x hx; simp at hx; rcases hx with rfl | rfl <;> rfl) (by simp)
  · match i, hi with
    | 0, _ =>
      obtain ⟨g, C, e1, e2, e3⟩ := k0
      exact RowI.mod ⟨h0, ⟨by show X.length ≤ 2; omega, by show 2 ≤ _; omega⟩, fun _ => ⟨g, C, e1, e2, e3⟩⟩ hm (fun _ _ _ _ h => h)
    | 1, _ =>
      obtain ⟨g, C, e1, e2, e3⟩ := k1
      exact RowI.mod ⟨h1, ⟨by show Y.length ≤ 2; omega, by show 2 ≤ _; omega⟩, fun _ => ⟨g, C, e1, e2, e3⟩⟩ hm (fun _ _ _ _ h => h)
    | i + 2, hi => exact absurd hi (by simp)
theorem wf_lit {n : Int} (h : -1000 ≤ n ∧ n ≤ 1000) : wf64 n := by unfold wf64; omega
end Go.Proofs.Ytpbmeeogledmdae
namespace Go.Proofs.Ytpbmeeogledmdae
open Go.RowKit

theorem plB_of {x y : Int} (h : 0 ≤ x ∧ x < 1024 ∧ 0 ≤ y ∧ y < 1024) : plB x y = true := decide_eq_true h
theorem wiB_of {e l : Int} (h : 0 ≤ e ∧ e ≤ l ∧ l ≤ 1048576) : wiB e l = true := decide_eq_true h
theorem drV_okP (B : List Int) (k : Int) : vehV (drV B k) = 0 := by
  have h1 := nx_bd B (k + 1) (m := 20) (by omega)
  have h2 := nx_bd B (k + 2) (m := 20) (by omega)
  have h3 := nx_bd B (k + 3) (m := 20) (by omega)
  have h4 := nx_bd B (k + 4) (m := 20) (by omega)
  have h5 := nx_bd B (k + 5) (m := 100) (by omega)
  show vehCode (500 + nx B (k + 1) 20) (500 + nx B (k + 2) 20) (8 + nx B (k + 3) 20) (nx B (k + 4) 20) (300 + 8 * nx B (k + 5) 100) = 0
  unfold vehCode firstV
  rw [plB_of (by omega), decide_eq_true (by omega), decide_eq_true (by omega), decide_eq_true (by omega)]
  rfl
theorem drR_okP (B : List Int) (wd k fr : Int) (hf : 0 ≤ fr ∧ fr ≤ 100000) : rqE (drR B wd k fr) = 0 := by
  have h1 := nx_bd B (k + 1) (m := 40) (by omega)
  have h2 := nx_bd B (k + 2) (m := 60) (by omega)
  have h3 := nx_bd B (k + 3) (m := 20) (by omega)
  have h4 := nx_bd B (k + 4) (m := 20) (by omega)
  have h5 := nx_bd B (k + 5) (m := 20) (by omega)
  have h6 := nx_bd B (k + 6) (m := 20) (by omega)
  have h7 := nx_bd B (k + 7) (m := 9) (by omega)
  have h8 := nx_bd B (k + 8) (m := 4) (by omega)
  have h9 := wideI_bd wd
  show rqCode (500 + nx B (k + 3) 20) (500 + nx B (k + 4) 20) (500 + nx B (k + 5) 20) (500 + nx B (k + 6) 20) (fr + nx B (k + 1) 40) (fr + nx B (k + 1) 40 + wideI wd) (fr + nx B (k + 1) 40 + nx B (k + 2) 60) (fr + nx B (k + 1) 40 + nx B (k + 2) 60 + wideI wd + 30) (1 + nx B (k + 7) 9) (nx B (k + 8) 4) = 0
  unfold rqCode firstC
  rw [plB_of (by omega), plB_of (by omega), wiB_of (by omega), wiB_of (by omega), decide_eq_true (by omega), decide_eq_true (by omega)]
  rfl
theorem pt_newC (B : List Int) (n wd f : Int) (_hf : 0 ≤ f ∧ f < 256) (_hn : 0 ≤ n ∧ n < 256) : newC (ptF B n f) (ptT B n wd) = 0 := by
  have hl : (ptF B n f).length = ptM f := drF_len _ _ _
  have hM : ptM f ≤ 4 ∧ 1 ≤ ptM f := by unfold ptM; omega
  have hN : ptN n ≤ 9 := by unfold ptN; omega
  unfold newC
  rw [if_neg (by omega), if_neg, if_neg]
  · intro h
    obtain ⟨r, hr, h2⟩ := List.any_eq_true.1 h
    unfold ptT drT at hr
    obtain ⟨i, hi, rfl⟩ := List.mem_map.1 hr
    have := List.mem_range.1 hi
    rw [drR_okP _ _ _ _ (by omega)] at h2
    cases h2
  · intro h
    obtain ⟨v, hv, h2⟩ := List.any_eq_true.1 h
    unfold ptF drF at hv
    obtain ⟨i, hi, rfl⟩ := List.mem_map.1 hv
    rw [drV_okP] at h2
    cases h2
theorem addr_one (b : Addr) : b.add 1 = ⟨b.block, b.off + 1, none⟩ := by unfold Addr.add; simp
def acV (a : Int × Int) : List Value := [.int .u8 a.1, .int .u8 a.2]
def AcRg (acts : List (Int × Int)) : Prop := ∀ a ∈ acts, (0 ≤ a.1 ∧ a.1 < 256) ∧ 0 ≤ a.2 ∧ a.2 < 256
/-- what 'done' hands back: a plan that changes its own blocks alone, and the fleet and the requests, ahead of it -/
def DnPost (w : World) (F : List Ve) (T : List Rq) (e : Ending) (w' : World) : Prop :=
  ∃ (b gT gM N : Nat) (rows : List Rou2) (q q' : Option Addr) (d d' : Nat) (wp : World), e = .returned (.tuple #[.pointer (some ⟨b, 0, none⟩), .slice q F.length d, .slice q' T.length d']) ∧ N ≤ 30 ∧ PSt wp.heap.size w' b gT gM N F rows T ∧
    Els wp q 5 (F.map veR) ∧ Els wp q' 10 (T.map rqV) ∧ Below wp.heap.size wp w' ∧ Below w.heap.size w wp
theorem DnPost.low {w w' : World} {F : List Ve} {T : List Rq} {e : Ending} (h : DnPost w F T e w') : Below w.heap.size w w' := by
  obtain ⟨b, gT, gM, N, rows, q, q', d, d', wp, _, _, _, _, _, h1, h2⟩ := h
  exact h2.trans (h1.mono h2.size)
end Go.Proofs.Ytpbmeeogledmdae
