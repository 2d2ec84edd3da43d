/-
  The document's layer 10: From, of a route as it is.
-/
import Derived.Test.YtdmnoogppmckaaaGreatPd
namespace Go.Proofs.YtdmnoogppmckaaaGreat
open Go.RowKit

theorem st_rowP {P : Program} {w : World} {g : Nat} {C : Array Value} {t : TypeId} (hB : Blk w g C t) (ty : TypeId) (cs : Array Value) (hs : C.size = cs.size) (h1 : ∀ v ∈ cs.toList, v.oneCell' = true) (hi : (P.info? ty).map (·.size) = some cs.size) :
    ∃ w', (storeVar ty ⟨g, 0, none⟩ (.agg cs)).run P w = .ok () w' ∧ Blk w' g cs t ∧ Mod (· = g) w w' :=
  ⟨w.setRow g cs, run_storeVar_row2 w g ty C cs t hB hs h1 hi, setRow_heap w g C cs t (0, 0) hB, ⟨rfl, rfl, rfl, by simp [World.setRow], fun k _ hk => setRow_other w g k cs hk⟩⟩
def z2P : Array Value := #[.int .i64 0, .int .i64 0]
/-- spot: the request, both results -/
structure SpC (w3 : World) (b : Nat) (q : Rq) (A E : Array Value) (d4 d5 : Bool) (W : World) : Prop where
  m : Mod (fun k => k = b + 1 ∨ k = b + 1 + 1) w3 W
  r : Blk W (b + 1 + 1 + 1) (rqV q).toArray 72
  p : Blk W (b + 1) (bif d4 then A else z2P) 51
  w : Blk W (b + 1 + 1) (bif d5 then E else z2P) 70
section
variable {w3 W W' : World} {b : Nat} {q : Rq} {A E : Array Value} {d4 d5 : Bool}
theorem SpC.start (h1 : Blk w3 (b + 1 + 1 + 1) (rqV q).toArray 72) (h2 : Blk w3 (b + 1) z2P 51) (h3 : Blk w3 (b + 1 + 1) z2P 70) : SpC w3 b q A E false false w3.drew :=
  ⟨(Mod.refl _ _).drew, h1.drew, h2.drew, h3.drew⟩
theorem SpC.st4 (h : SpC w3 b q A E d4 d5 W) (hB : Blk W' (b + 1) A 51) (hm : Mod (· = b + 1) W W') : SpC w3 b q A E true d5 W' :=
  ⟨h.m.trans (hm.mono (fun _ _ h => .inl h)), h.r.mod hm (by omega), hB, h.w.mod hm (by omega)⟩
theorem SpC.st5 (h : SpC w3 b q A E d4 d5 W) (hB : Blk W' (b + 1 + 1) E 70) (hm : Mod (· = b + 1 + 1) W W') : SpC w3 b q A E d4 true W' :=
  ⟨h.m.trans (hm.mono (fun _ _ h => .inr h)), h.r.mod hm (by omega), h.p.mod hm (by omega), hB⟩
end
theorem results_cell_cell {P : Program} {fn : Func} {p q : Tmp} {ty ty2 : TypeId} (h : fn.results = #[.cell p ty, .cell q ty2]) (tmps : Array Value) (w : World) (g g2 : Nat) (t t2 : TypeId) (cs cs2 : Array Value) (d d2 : TypeDesc)
    (hp : tmps.getD p undef = .pointer (some ⟨g, 0, none⟩)) (hg : Blk w g cs t) (hq : tmps.getD q undef = .pointer (some ⟨g2, 0, none⟩)) (hg2 : Blk w g2 cs2 t2)
    (hu : P.underlying ty = some d) (hd : (match d with | .struct _ | .array _ _ => true | _ => false) = true) (hi : (P.info? ty).map (·.size) = some cs.size)
    (hu2 : P.underlying ty2 = some d2) (hd2 : (match d2 with | .struct _ | .array _ _ => true | _ => false) = true) (hi2 : (P.info? ty2).map (·.size) = some cs2.size) :
    (results fn tmps).run P w = .ok (.tuple #[.agg cs, .agg cs2]) w := by
  have hp' : tmps[p]?.getD undef = .pointer (some ⟨g, 0, none⟩) := by simpa using hp
  have hq' : tmps[q]?.getD undef = .pointer (some ⟨g2, 0, none⟩) := by simpa using hq
  simp [results, h, hp', hq', asAddr, run_loadVar_row w g t ty cs (0, 0) d hg hu hd hi, run_loadVar_row w g2 t2 ty2 cs2 (0, 0) d2 hg2 hu2 hd2 hi2]
set_option maxHeartbeats 4000000 in
set_option maxRecDepth 100000 in
theorem spot_calls (p : Option Addr) (cap : Nat) (t : List Rq) (n : Nat) (hn : n < t.length) (k : Int) (hk : k = 0 ∨ k = 1) (w : World) (hE : Els w p 10 (t.map rqV)) :
    Calls Tryz.prog 152 #[.agg #[.int .i64 n, .int .i64 k], .slice p t.length cap] w fun e w' => e = .returned (.tuple #[.agg #[.int .i64 (ptG ((n : Int), k) t).x, .int .i64 (ptG ((n : Int), k) t).y], .agg #[.int .i64 (ptG ((n : Int), k) t).e, .int .i64 (ptG ((n : Int), k) t).l]]) ∧ Below w.heap.size w w' := by
  have hbig : t.length ≤ 140737488351232 := by simpa using hE.big
  have hnI : (n : Int) < (t.length : Int) := by omega
  have hn0 : (0 : Int) ≤ (n : Int) := by omega
  obtain ⟨a, rfl⟩ := hE.some_of (k := n) (by simpa using hn)
  have hg : ptG ((n : Int), k) t = if k = 0 then ⟨t[n] 0, t[n] 1, t[n] 4, t[n] 5, t[n] 9⟩ else ⟨t[n] 2, t[n] 3, t[n] 6, t[n] 7, t[n] 9⟩ := by
    unfold ptG ptOf
    dsimp only
    rw [if_neg (by omega), Int.toNat_natCast, getD_at t hn]
    rcases hk with rfl | rfl
    · rfl
    · rfl
  obtain ⟨b, hb⟩ : ∃ b, w.heap.size = b := ⟨_, rfl⟩
  have hl := Lib.hid (fun wx (h : Below w.heap.size w wx) => (by
    have := (hE.below h).load (P := Tryz.prog) (a := a) rfl (k := n) (by simpa using hn) (ty := 72) Tryz.underlying72 rfl (by kernel_rfl)
    rw [List.getElem_map] at this
    exact this : (loadVar 72 (a.add (n * 10))).run Tryz.prog wx = .ok (.agg (rqV t[n]).toArray) wx))
  generalize t[n] = q at *
  have hq0 : (rqV q).toArray.size = 10 := rfl
  have hlp := Lib.hid (fun wx (h : Blk wx (b + 1 + 1 + 1) (rqV q).toArray 72) => load_part (P := Tryz.prog) wx (b + 1 + 1 + 1) (rqV q).toArray 72 h 0 2 (by rw [hq0]; omega) 51 _ Tryz.underlying51 rfl (by kernel_rfl))
  have hlw := Lib.hid (fun wx (h : Blk wx (b + 1 + 1 + 1) (rqV q).toArray 72) => load_part (P := Tryz.prog) wx (b + 1 + 1 + 1) (rqV q).toArray 72 h 4 2 (by rw [hq0]; omega) 70 _ Tryz.underlying70 rfl (by kernel_rfl))
  have hdp := Lib.hid (fun wx (h : Blk wx (b + 1 + 1 + 1) (rqV q).toArray 72) => load_part (P := Tryz.prog) wx (b + 1 + 1 + 1) (rqV q).toArray 72 h 2 2 (by rw [hq0]; omega) 51 _ Tryz.underlying51 rfl (by kernel_rfl))
  have hdw := Lib.hid (fun wx (h : Blk wx (b + 1 + 1 + 1) (rqV q).toArray 72) => load_part (P := Tryz.prog) wx (b + 1 + 1 + 1) (rqV q).toArray 72 h 6 2 (by rw [hq0]; omega) 70 _ Tryz.underlying70 rfl (by kernel_rfl))
  have hpre : Hid (∀ r : Value, Blk ((((w.alloc (.cells #[r, .int .i64 k] 75)).alloc (.cells z2P 51)).alloc (.cells z2P 70))) b #[r, .int .i64 k] 75 ∧
    Blk ((((w.alloc (.cells #[r, .int .i64 k] 75)).alloc (.cells z2P 51)).alloc (.cells z2P 70))) (b + 1) z2P 51 ∧
    Blk ((((w.alloc (.cells #[r, .int .i64 k] 75)).alloc (.cells z2P 51)).alloc (.cells z2P 70))) (b + 1 + 1) z2P 70 ∧
    Below b w ((((w.alloc (.cells #[r, .int .i64 k] 75)).alloc (.cells z2P 51)).alloc (.cells z2P 70))) ∧ ((((w.alloc (.cells #[r, .int .i64 k] 75)).alloc (.cells z2P 51)).alloc (.cells z2P 70))).heap.size = b + 1 + 1 + 1) := Lib.hid (fun r => by
    subst hb
    have h1 := Blk.new w #[r, .int .i64 k] 75
    have h2 := Blk.new' w (.cells #[r, .int .i64 k] 75) z2P 51
    have h3 := Blk.new' (w.alloc (.cells #[r, .int .i64 k] 75)) (.cells z2P 51) z2P 70
    have e : (w.alloc (.cells #[r, .int .i64 k] 75)).heap.size = w.heap.size + 1 := by simp
    rw [e] at h3
    exact ⟨(h1.alloc _).alloc _, h2.alloc _, h3, (((Below.refl _ _).alloc (Nat.le_refl _) _).alloc (by simp) _).alloc (by simp; omega) _, by simp⟩)
  rw [hb] at hl
  obtain ⟨A, hAe⟩ : ∃ A : Array Value, #[.int .i64 (ptG ((n : Int), k) t).x, .int .i64 (ptG ((n : Int), k) t).y] = A := ⟨_, rfl⟩
  obtain ⟨E, hEe⟩ : ∃ E : Array Value, #[.int .i64 (ptG ((n : Int), k) t).e, .int .i64 (ptG ((n : Int), k) t).l] = E := ⟨_, rfl⟩
  have hA : Hid (z2P.size = A.size ∧ (∀ v ∈ A.toList, v.oneCell' = true) ∧ (Tryz.prog.info? 51).map (·.size) = some A.size) := Lib.hid (by subst hAe; exact ⟨rfl, pair_one _ _, pl_size _ _⟩)
  have hE2 : Hid (z2P.size = E.size ∧ (∀ v ∈ E.toList, v.oneCell' = true) ∧ (Tryz.prog.info? 70).map (·.size) = some E.size) := Lib.hid (by subst hEe; exact ⟨rfl, pair_one _ _, wi_size _ _⟩)
  rw [hAe, hEe]
  rw [hg] at hAe hEe
  have h0A : Hid (k = 0 → #[.int .i64 (q 0), .int .i64 (q 1)] = A ∧ #[.int .i64 (q 4), .int .i64 (q 5)] = E) := Lib.hid (fun h => by rw [if_pos h] at hAe hEe; exact ⟨hAe, hEe⟩)
  have h1A : Hid (¬ k = 0 → #[.int .i64 (q 2), .int .i64 (q 3)] = A ∧ #[.int .i64 (q 6), .int .i64 (q 7)] = E) := Lib.hid (fun h => by rw [if_neg h] at hAe hEe; exact ⟨hAe, hEe⟩)
  clear hAe hEe hg
  have hb2 := Lib.hid hb
  clear hq0 hE
  go_enter Tryz.func152, Tryz.ntmps152
  go_upto_region 1 with fail
  obtain ⟨p1, p2, p3, p4, p5⟩ := hpre.out (.int .i64 (n : Int))
  refine wp_world' (fun wx => Blk wx b #[.int .i64 n, .int .i64 k] 75 ∧ Blk wx (b + 1) z2P 51 ∧ Blk wx (b + 1 + 1) z2P 70 ∧ Below b w wx ∧ wx.heap.size = b + 1 + 1 + 1) ⟨p1, p2, p3, p4, p5⟩ ?_
  clear p1 p2 p3 p4 p5 hpre hb
  rintro w1 ⟨hS, hP, hW, hbw, hz⟩
  have k0 := hS.cell (i := 0) rfl
  have hl1 := Lib.hid (hl.out w1 hbw)
  have hb0 : b ≤ w1.heap.size := by omega
  have hfin : Blk (w1.alloc (.cells (rqV q).toArray 72)) (b + 1 + 1 + 1) (rqV q).toArray 72 := by rw [← hz]; exact Blk.new _ _ _
  have hpre := Lib.hid (show Blk (w1.alloc (.cells (rqV q).toArray 72)) b #[.int .i64 n, .int .i64 k] 75 ∧ Blk (w1.alloc (.cells (rqV q).toArray 72)) (b + 1) z2P 51 ∧ Blk (w1.alloc (.cells (rqV q).toArray 72)) (b + 1 + 1) z2P 70 ∧ Blk (w1.alloc (.cells (rqV q).toArray 72)) (b + 1 + 1 + 1) (rqV q).toArray 72 ∧ Below b w (w1.alloc (.cells (rqV q).toArray 72)) from
    ⟨hS.alloc _, hP.alloc _, hW.alloc _, hfin, hbw.alloc hb0 _⟩)
  clear hS hP hW hbw hl hfin hb0
  obtain ⟨Q, hQ⟩ : ∃ Q, (rqV q).toArray = Q := ⟨_, rfl⟩
  have hQs : Q.size = 10 := by rw [← hQ]; rfl
  have hQ1 : ∀ u ∈ Q.toList, u.oneCell' = true := by rw [← hQ]; exact rqV_one q
  rw [hQ] at hl1 hpre
  replace hQ := Lib.hid hQ
  replace hz := Lib.hid hz
  go_upto_region 2 with (first | (refine wpList_load_v rfl 72 _ rfl (a.add (n * 10)) rfl _ hl1.out ?_) | (refine wpList_store_new rfl 72 _ _ rfl rfl rfl _ Q _ rfl hQs.symm hQ1 (by rw [hQs]; kernel_rfl) ?_))
  rw [hz.out]
  refine wp_world' (fun wx => Blk wx b #[.int .i64 n, .int .i64 k] 75 ∧ Blk wx (b + 1) z2P 51 ∧ Blk wx (b + 1 + 1) z2P 70 ∧ Blk wx (b + 1 + 1 + 1) Q 72 ∧ Below b w wx) hpre.out ?_
  clear hpre k0 hl1 hz
  rintro w3 ⟨hS, hP, hW, hR, hbw⟩
  have k1 := hS.cell (i := 1) rfl
  rw [← hQ.out] at hR
  clear hS hQs hQ1
  have hfin : ∀ (A E : Array Value) (tm : Array Value) (W : World), SpC w3 b q A E true true W → Below b w W := fun A E tm W h => hbw.trans (h.m.below (by rw [← hb2.out]; exact hbw.size) (fun k hk => by omega))
  rcases hk with rfl | rfl
  · obtain ⟨hAe, hEe⟩ := h0A.out rfl
    have hlA := Lib.hid (fun wx (h : Blk wx (b + 1 + 1 + 1) (rqV q).toArray 72) => (show (loadVar 51 ⟨b + 1 + 1 + 1, 0, none⟩).run Tryz.prog wx = .ok (.agg A) wx from by rw [hlp.out wx h, ← hAe]; rfl))
    have hlE := Lib.hid (fun wx (h : Blk wx (b + 1 + 1 + 1) (rqV q).toArray 72) => (show (loadVar 70 ⟨b + 1 + 1 + 1, 4, none⟩).run Tryz.prog wx = .ok (.agg E) wx from by rw [hlw.out wx h, ← hEe]; rfl))
    clear hlp hlw hdp hdw h0A h1A hAe hEe
    go_upto_region 3 with fail
    refine wp_region_rove (X := Unit) () (fun x => [(15, .pointer (some ⟨b + 1 + 1 + 1, 0, none⟩)), (16, .agg A), (17, .pointer (some ⟨b + 1 + 1 + 1, 4, none⟩)), (18, .agg E)])
      (fun x d W' => SpC w3 b q A E (d 4) (d 5) W') (by kernel_rfl) (by kernel_rfl) (by kernel_rfl) (by kernel_rfl) (fun x => by kernel_rfl)
      (SpC.start hR hP hW) ?_ ?_
    · intro aF hAF
      have E6 : ∀ x, (aF x).eval (.tmp 6) = .pointer (some ⟨b + 1 + 1 + 1, 0, none⟩) := by intro x; rw [hAF]; kernel_rfl
      have E4 : ∀ x, (aF x).eval (.tmp 4) = .pointer (some ⟨b + 1, 0, none⟩) := by intro x; rw [hAF]; kernel_rfl
      have E5 : ∀ x, (aF x).eval (.tmp 5) = .pointer (some ⟨b + 1 + 1, 0, none⟩) := by intro x; rw [hAF]; kernel_rfl
      have T15 : ∀ x, (aF x).tmps[15]? = some (.pointer (some ⟨b + 1 + 1 + 1, 0, none⟩)) := by intro x; rw [hAF]; kernel_rfl
      have E15 : ∀ x, (aF x).eval (.tmp 15) = .pointer (some ⟨b + 1 + 1 + 1, 0, none⟩) := by intro x; rw [hAF]; kernel_rfl
      have T16 : ∀ x, (aF x).tmps[16]? = some (.agg A) := by intro x; rw [hAF]; kernel_rfl
      have E16 : ∀ x, (aF x).eval (.tmp 16) = .agg A := by intro x; rw [hAF]; kernel_rfl
      have T17 : ∀ x, (aF x).tmps[17]? = some (.pointer (some ⟨b + 1 + 1 + 1, 4, none⟩)) := by intro x; rw [hAF]; kernel_rfl
      have E17 : ∀ x, (aF x).eval (.tmp 17) = .pointer (some ⟨b + 1 + 1 + 1, 4, none⟩) := by intro x; rw [hAF]; kernel_rfl
      have T18 : ∀ x, (aF x).tmps[18]? = some (.agg E) := by intro x; rw [hAF]; kernel_rfl
      have E18 : ∀ x, (aF x).eval (.tmp 18) = .agg E := by intro x; rw [hAF]; kernel_rfl
      replace hAF := Lib.hid hAF
      refine ⟨?_, ?_, ?_, ?_, ?_, ?_, trivial⟩
      · exact opOk3_quiet _ (by intro x t hd _; cases hd; exact T15 x) (fun _ => rfl) fun x d w' hd hc => sv (run_fldT rfl (E6 x) (fun _ => by kernel_rfl)) hc
      · exact opOk3_quiet _ (by intro x t hd _; cases hd; exact T16 x) (fun _ => rfl) fun x d w' hd hc => sv (run_load1 rfl (E15 x) (hlA.out _ hc.r)) hc
      · exact opOk3_quiet _ (by intro x t hd _; cases hd; exact T17 x) (fun _ => rfl) fun x d w' hd hc => sv (run_fldT rfl (E6 x) (fun _ => by kernel_rfl)) hc
      · exact opOk3_quiet _ (by intro x t hd _; cases hd; exact T18 x) (fun _ => rfl) fun x d w' hd hc => sv (run_load1 rfl (E17 x) (hlE.out _ hc.r)) hc
      · exact opOk3_loud rfl fun x d w' hd hn hc => by
            have n4 : d 4 = false := hn 4 (by kernel_rfl)
            rw [n4] at hc
            obtain ⟨W2, hrun, hB2, hm2⟩ := st_rowP (P := Tryz.prog) hc.p 51 A hA.out.1 hA.out.2.1 hA.out.2.2
            refine sk_s (run_storeP rfl (E4 x) (E16 x) hrun) ⟨x, agree_same _ _, (by intro t hd _; cases hd), ?_⟩
            exact hc.st4 hB2 hm2
      · exact opOk3_loud rfl fun x d w' hd hn hc => by
            have n5 : d 5 = false := hn 5 (by kernel_rfl)
            rw [n5] at hc
            obtain ⟨W2, hrun, hB2, hm2⟩ := st_rowP (P := Tryz.prog) hc.w 70 E hE2.out.1 hE2.out.2.1 hE2.out.2.2
            refine sk_s (run_storeP rfl (E5 x) (E18 x) hrun) ⟨x, agree_same _ _, (by intro t hd _; cases hd), ?_⟩
            exact hc.st5 hB2 hm2
    · intro x d w' hd hc
      simp only [putAll, List.foldl_cons, List.foldl_nil, Act.put, List.setIfInBounds_toArray, List.set_cons_succ, List.set_cons_zero]
      rw [hd 4 (by decide), hd 5 (by decide)] at hc
      have hbf := Lib.hid (hfin A E #[] _ hc)
      have hcp := Lib.hid hc.p
      have hcw := Lib.hid hc.w
      clear hd hc hfin hlA hlE hR hP hW hbw k1
      go_wp2_with fail
      exact bodyPost_ret (results_cell_cell rfl _ _ (b + 1) (b + 1 + 1) _ _ A E _ _ rfl hcp.out rfl hcw.out Tryz.underlying51 rfl hA.out.2.2 Tryz.underlying70 rfl hE2.out.2.2) rfl ⟨rfl, hb2.out ▸ hbf.out⟩
  · obtain ⟨hAe, hEe⟩ := h1A.out (by omega)
    have hlA := Lib.hid (fun wx (h : Blk wx (b + 1 + 1 + 1) (rqV q).toArray 72) => (show (loadVar 51 ⟨b + 1 + 1 + 1, 2, none⟩).run Tryz.prog wx = .ok (.agg A) wx from by rw [hdp.out wx h, ← hAe]; rfl))
    have hlE := Lib.hid (fun wx (h : Blk wx (b + 1 + 1 + 1) (rqV q).toArray 72) => (show (loadVar 70 ⟨b + 1 + 1 + 1, 6, none⟩).run Tryz.prog wx = .ok (.agg E) wx from by rw [hdw.out wx h, ← hEe]; rfl))
    clear hlp hlw hdp hdw h0A h1A hAe hEe
    go_upto_region 4 with fail
    refine wp_region_rove (X := Unit) () (fun x => [(19, .pointer (some ⟨b + 1 + 1 + 1, 2, none⟩)), (20, .agg A), (21, .pointer (some ⟨b + 1 + 1 + 1, 6, none⟩)), (22, .agg E)])
      (fun x d W' => SpC w3 b q A E (d 4) (d 5) W') (by kernel_rfl) (by kernel_rfl) (by kernel_rfl) (by kernel_rfl) (fun x => by kernel_rfl)
      (SpC.start hR hP hW) ?_ ?_
    · intro aF hAF
      have E6 : ∀ x, (aF x).eval (.tmp 6) = .pointer (some ⟨b + 1 + 1 + 1, 0, none⟩) := by intro x; rw [hAF]; kernel_rfl
      have E4 : ∀ x, (aF x).eval (.tmp 4) = .pointer (some ⟨b + 1, 0, none⟩) := by intro x; rw [hAF]; kernel_rfl
      have E5 : ∀ x, (aF x).eval (.tmp 5) = .pointer (some ⟨b + 1 + 1, 0, none⟩) := by intro x; rw [hAF]; kernel_rfl
      have T19 : ∀ x, (aF x).tmps[19]? = some (.pointer (some ⟨b + 1 + 1 + 1, 2, none⟩)) := by intro x; rw [hAF]; kernel_rfl
      have E19 : ∀ x, (aF x).eval (.tmp 19) = .pointer (some ⟨b + 1 + 1 + 1, 2, none⟩) := by intro x; rw [hAF]; kernel_rfl
      have T20 : ∀ x, (aF x).tmps[20]? = some (.agg A) := by intro x; rw [hAF]; kernel_rfl
      have E20 : ∀ x, (aF x).eval (.tmp 20) = .agg A := by intro x; rw [hAF]; kernel_rfl
      have T21 : ∀ x, (aF x).tmps[21]? = some (.pointer (some ⟨b + 1 + 1 + 1, 6, none⟩)) := by intro x; rw [hAF]; kernel_rfl
      have E21 : ∀ x, (aF x).eval (.tmp 21) = .pointer (some ⟨b + 1 + 1 + 1, 6, none⟩) := by intro x; rw [hAF]; kernel_rfl
      have T22 : ∀ x, (aF x).tmps[22]? = some (.agg E) := by intro x; rw [hAF]; kernel_rfl
      have E22 : ∀ x, (aF x).eval (.tmp 22) = .agg E := by intro x; rw [hAF]; kernel_rfl
      replace hAF := Lib.hid hAF
      refine ⟨?_, ?_, ?_, ?_, ?_, ?_, trivial⟩
      · exact opOk3_quiet _ (by intro x t hd _; cases hd; exact T19 x) (fun _ => rfl) fun x d w' hd hc => sv (run_fldT rfl (E6 x) (fun _ => by kernel_rfl)) hc
      · exact opOk3_quiet _ (by intro x t hd _; cases hd; exact T20 x) (fun _ => rfl) fun x d w' hd hc => sv (run_load1 rfl (E19 x) (hlA.out _ hc.r)) hc
      · exact opOk3_quiet _ (by intro x t hd _; cases hd; exact T21 x) (fun _ => rfl) fun x d w' hd hc => sv (run_fldT rfl (E6 x) (fun _ => by kernel_rfl)) hc
      · exact opOk3_quiet _ (by intro x t hd _; cases hd; exact T22 x) (fun _ => rfl) fun x d w' hd hc => sv (run_load1 rfl (E21 x) (hlE.out _ hc.r)) hc
      · exact opOk3_loud rfl fun x d w' hd hn hc => by
            have n4 : d 4 = false := hn 4 (by kernel_rfl)
            rw [n4] at hc
            obtain ⟨W2, hrun, hB2, hm2⟩ := st_rowP (P := Tryz.prog) hc.p 51 A hA.out.1 hA.out.2.1 hA.out.2.2
            refine sk_s (run_storeP rfl (E4 x) (E20 x) hrun) ⟨x, agree_same _ _, (by intro t hd _; cases hd), ?_⟩
            exact hc.st4 hB2 hm2
      · exact opOk3_loud rfl fun x d w' hd hn hc => by
            have n5 : d 5 = false := hn 5 (by kernel_rfl)
            rw [n5] at hc
            obtain ⟨W2, hrun, hB2, hm2⟩ := st_rowP (P := Tryz.prog) hc.w 70 E hE2.out.1 hE2.out.2.1 hE2.out.2.2
            refine sk_s (run_storeP rfl (E5 x) (E22 x) hrun) ⟨x, agree_same _ _, (by intro t hd _; cases hd), ?_⟩
            exact hc.st5 hB2 hm2
    · intro x d w' hd hc
      simp only [putAll, List.foldl_cons, List.foldl_nil, Act.put, List.setIfInBounds_toArray, List.set_cons_succ, List.set_cons_zero]
      rw [hd 4 (by decide), hd 5 (by decide)] at hc
      have hbf := Lib.hid (hfin A E #[] _ hc)
      have hcp := Lib.hid hc.p
      have hcw := Lib.hid hc.w
      clear hd hc hfin hlA hlE hR hP hW hbw k1
      go_wp2_with fail
      exact bodyPost_ret (results_cell_cell rfl _ _ (b + 1) (b + 1 + 1) _ _ A E _ _ rfl hcp.out rfl hcw.out Tryz.underlying51 rfl hA.out.2.2 Tryz.underlying70 rfl hE2.out.2.2) rfl ⟨rfl, hb2.out ▸ hbf.out⟩
theorem pt_kind {s : Int × Int} {t : List Rq} (h : ptB s t = true) : s.2 = 0 ∨ s.2 = 1 := by
  unfold ptB ptOf at h
  by_cases h1 : s.1 < 0 ∨ (t.length : Int) ≤ s.1
  · rw [if_pos h1] at h; cases h
  · rw [if_neg h1] at h
    by_cases h2 : s.2 = 0
    · exact .inl h2
    · rw [if_neg h2] at h
      by_cases h3 : s.2 = 1
      · exact .inr h3
      · rw [if_neg h3] at h; cases h
theorem pt_wi {s : Int × Int} {t : List Rq} (h : ptB s t = true) (hq : ∀ q ∈ t, rqE q = 0) : wiB (ptG s t).e (ptG s t).l = true := by
  have hk := pt_kind h
  obtain ⟨n, hn1, hn2, _⟩ := pt_there h
  have hr := rqE_all (hq _ (List.getElem_mem hn2))
  unfold wiB
  refine decide_eq_true ?_
  have e : ptG s t = if s.2 = 0 then ⟨t[n] 0, t[n] 1, t[n] 4, t[n] 5, t[n] 9⟩ else ⟨t[n] 2, t[n] 3, t[n] 6, t[n] 7, t[n] 9⟩ := by
    unfold ptG ptOf
    rw [hn1, if_neg (by omega), Int.toNat_natCast, getD_at t hn2]
    rcases hk with e | e
    · rw [if_pos e, if_pos e]; rfl
    · rw [if_neg (by omega), if_pos e, if_neg (by omega)]; rfl
  rw [e]
  by_cases h0 : s.2 = 0
  · rw [if_pos h0]; exact hr.1
  · rw [if_neg h0]; exact hr.2.1
theorem wpList_selfF {P : Program} {ops : Array Oper} {l : List Oper} {a : Act} {w : World} {Q : Exit → Act → World → Prop} (h : wpList P ops Q l a w) : wpList P ops Q l a w := h
/-- quiet, then one cell is stored -/
def StF (w : World) (p : Addr) (v : Value) (b : Bool) (W : World) : Prop := ∃ W0, Mod (fun _ => False) w W0 ∧ W = bif b then W0.setCell p v else W0
theorem StF.m {w W : World} {p : Addr} {v : Value} (h : StF w p v false W) : Mod (fun _ => False) w W := by
  obtain ⟨W0, h, rfl⟩ := h
  exact h
theorem run_ixStF {ρ : Operand → Value} {o : Oper} {w : World} {x y : Operand} {a : Addr} {n c k : Nat} (ho : o.op = .indexAddr 47 x y) (hx : ρ x = .slice (some a) n c) (hy : ρ y = .int .i64 k) (hk : k < n) : (execOp ρ o).run Tryz.prog w = .ok (.value (.pointer (some (a.add (k * 2))))) w := by
  have h0 : (0 : Int) ≤ (k : Int) := by omega
  have h1 : (k : Int) < (n : Int) := by omega
  have h2 : ((k : Int)).toNat = k := by omega
  unfold execOp
  simp only [ho, hx, hy]
  go_simp
theorem run_fldS0 {ρ : Operand → Value} {o : Oper} {w : World} {x : Operand} {a : Addr} (ho : o.op = .fieldAddr 75 x 0) (hx : ρ x = .pointer (some a)) : (execOp ρ o).run Tryz.prog w = .ok (.value (.pointer (some (a.add 0)))) w := by
  unfold execOp
  simp only [ho, hx]
  go_simp
set_option maxHeartbeats 8000000 in
set_option maxRecDepth 100000 in
theorem from_calls (x y cp st en : Int) (p p' : Option Addr) (c c' : Nat) (l : List (Int × Int)) (t : List Rq) (w : World) (hL : Els w p 2 (l.map stV)) (hc : l.length ≤ c ∧ c ≤ 9223372036854775807) (hT : Els w p' 10 (t.map rqV)) :
    Calls Tryz.prog 142 #[.agg #[.int .i64 x, .int .i64 y, .int .i64 cp, .int .i64 st, .int .i64 en], .slice p l.length c, .slice p' t.length c', .int .i64 (-1), .int .i64 0] w (TmPost w (tmP x y cp st en l t)) := by
  have hbl : l.length ≤ 140737488351232 := by simpa using hL.big
  have hbt : t.length ≤ 140737488351232 := by simpa using hT.big
  have hX : tmP x y cp st en l t = if wrP x y cp st en l t ≠ 0 then ([], 0, wrP x y cp st en l t)
    else match tmRun t l x y st with | none => ([], 0, 9) | some (L, ax, ay, now) => if en < now + dsP ax ay x y then ([], 0, 9) else (L, now + dsP ax ay x y, 0) := rfl
  have hw := Lib.hid (fun wx (h : Below w.heap.size w wx) => wrong7_ref x y cp st en p p' c c' l t wx (hL.below h) hc (hT.below h))
  have hz := Lib.hid (fun h : wrP x y cp st en l t = 0 => wrP_zero h)
  generalize tmP x y cp st en l t = X at hX ⊢
  generalize wrP x y cp st en l t = wr at hX hw hz
  replace hX := Lib.hid hX
  replace hL := Lib.hid hL
  replace hT := Lib.hid hT
  obtain ⟨V, hV⟩ : ∃ V : Array Value, #[.int .i64 x, .int .i64 y, .int .i64 cp, .int .i64 st, .int .i64 en] = V := ⟨_, rfl⟩
  have g0 : V[0]? = some (.int .i64 x) := by rw [← hV]; rfl
  have g1 : V[1]? = some (.int .i64 y) := by rw [← hV]; rfl
  have g3 : V[3]? = some (.int .i64 st) := by rw [← hV]; rfl
  have g4 : V[4]? = some (.int .i64 en) := by rw [← hV]; rfl
  have hsV : V.size = 5 := by rw [← hV]; rfl
  have hlv := Lib.hid (fun wx (h : Blk wx w.heap.size V 53) => run_load_row' (P := Tryz.prog) wx w.heap.size 53 V 53 _ h Tryz.underlying53 rfl (by rw [hsV]; kernel_rfl))
  have hlh := Lib.hid (fun wx (h : Blk wx w.heap.size V 53) => (show (loadVar 51 ⟨w.heap.size, 0, none⟩).run Tryz.prog wx = .ok (.agg #[.int .i64 x, .int .i64 y]) wx from by
    have := load_part (P := Tryz.prog) wx w.heap.size V 53 h 0 2 (by rw [hsV]; omega) 51 _ Tryz.underlying51 rfl (by kernel_rfl)
    rw [this, ← hV]; rfl))
  rw [hV] at hw ⊢
  clear hV hsV
  go_enter Tryz.func142, Tryz.ntmps142
  go_upto_region 1 with fail
  refine wp_world' (fun wx => Blk wx w.heap.size V 53 ∧ Below w.heap.size w wx) ⟨Blk.new _ _ _, new_below _ _⟩ ?_
  rintro w1 ⟨hB, hb⟩
  have hlv1 := Lib.hid (hlv.out _ hB)
  have HB := Lib.hid hB
  clear hB hlv
  go_wp2_with (refine wpList_load_v rfl 53 _ rfl ⟨w.heap.size, 0, none⟩ rfl _ hlv1.out ?_)
  refine (hw.out _ hb).mono ?_
  rintro e w2 ⟨rfl, hb2⟩
  have HB2 := Lib.hid (HB.out.mod ((Mod.refl (fun _ => False) _).after hb2) (fun h => h))
  replace hb2 := hb.trans (hb2.mono hb.size)
  clear hlv1 hw hb HB
  by_cases v0 : wr = 0
  · subst v0
    obtain ⟨z1, z2, z3, z4⟩ := hz.out rfl
    have hl16 := chkP_len z3
    clear z3
    obtain ⟨_, _, q1, q2, q3⟩ := vehCode_zero z1
    replace z2 := Lib.hid z2
    replace z4 := Lib.hid z4
    have hX2 : Hid (X = match tmRun t l x y st with | none => ([], 0, 9) | some (L, ax, ay, now) => if en < now + dsP ax ay x y then ([], 0, 9) else (L, now + dsP ax ay x y, 0)) := Lib.hid (hX.out.trans (if_neg (by simp)))
    clear hX hz z1
    have k3 := HB2.out.cell g3
    have k0 := HB2.out.cell g0
    have k1 := HB2.out.cell g1
    have k3' := (HB2.out.alloc (.cells #[.int .i64 0, .int .i64 0] 51)).cell g3
    have k0' := (HB2.out.alloc (.cells #[.int .i64 0, .int .i64 0] 51)).cell g0
    have k1' := (HB2.out.alloc (.cells #[.int .i64 0, .int .i64 0] 51)).cell g1
    have k3'' := (HB2.out.alloc (.cells #[.int .i64 x, .int .i64 y] 51)).cell g3
    go_upto_region 4 with fail
    go_region
    go_upto_region 5 with fail
    refine wp_world' (fun wx => Blk wx w.heap.size V 53 ∧ Blk wx w2.heap.size #[.int .i64 x, .int .i64 y] 51 ∧ Below w.heap.size w wx)
      ⟨(HB2.out.alloc _).drew, (Blk.new _ _ _).drew, (hb2.alloc hb2.size _).drew⟩ ?_
    rintro w3 ⟨hV3, hA3, hb3⟩
    have hgA : w.heap.size < w2.heap.size := HB2.out.lt
    have hgB : w2.heap.size < w3.heap.size := hA3.lt
    clear k0 k1 k3 k0' k1' k3' k3'' HB2 hb2 g0 g1 g3
    generalize w2.heap.size = gA at *
    generalize hgs : w3.heap.size = gs at *
    replace hgs := Lib.hid hgs
    go_wp2_with fail
    go_loopw [16, 15, 17] (fun o nw i wr => ∃ (k : Nat) (L : Tms) (ax ay now : Int), k ≤ l.length ∧ i = .int .i64 k ∧ nw = .int .i64 now ∧ (0 ≤ now ∧ now ≤ 1050000) ∧ L.length = k ∧ Hid (tmRun t l x y st = (tmRun t (l.drop k) ax ay now).map fun q => (L ++ q.1, q.2)) ∧
      wr.ownsRow gs 141 3 o L.length (L.map tmV).flatten ∧ Blk wr gA #[.int .i64 ax, .int .i64 ay] 51 ∧ Blk wr w.heap.size V 53 ∧ Below w.heap.size w wr ∧ gs ≤ wr.heap.size) (fun _ _ i _ => l.length - (intOf i).toNat)
    case atStart => exact ⟨0, [], x, y, st, Nat.zero_le _, rfl, rfl, by omega, rfl, Lib.hid (by rw [List.drop_zero]; cases tmRun t l x y st <;> rfl), World.ownsRow_nil _ _ _ _, hA3, hV3, hb3, by rw [hgs.out]; exact Nat.le_refl _⟩
    case round =>
      obtain ⟨k, L, ax, ay, now, hk, rfl, rfl, hnow, hLk, hR, hown, hA, hVr, hbr, hgr⟩ := hrel
      by_cases hlt : k < l.length
      · have hltI : (k : Int) < (l.length : Int) := by omega
        obtain ⟨a, rfl⟩ := (hL.out.below hbr).some_of (k := k) (by simpa using hlt)
        have hla := Lib.hid (fun wx (h : Below w.heap.size w wx) => (hL.out.below h).load (P := Tryz.prog) (a := a) rfl (k := k) (by simpa using hlt) (ty := 75) Tryz.underlying75 rfl (by kernel_rfl))
        have hl0 := Lib.hid (fun wx (h : Below w.heap.size w wx) => (hL.out.below h).one (a := a) rfl (k := k) (by simpa using hlt) 0 (.int .i64 (l[k].1)) (by rw [List.getElem_map]; rfl))
        have hstep : tmRun t (l.drop k) ax ay now = tmRun t (l[k] :: l.drop (k + 1)) ax ay now := by rw [List.drop_eq_getElem_cons hlt]
        have hpb := z4.out _ (List.getElem_mem hlt)
        obtain ⟨n, hn1, hn2, hn3⟩ := pt_there hpb
        have hsv := rqE_serve (z2.out _ (List.getElem_mem hn2))
        rw [← hn3] at hsv
        rw [List.getElem_map] at hla
        obtain ⟨r, q, hs⟩ : ∃ r q, l[k] = (r, q) := ⟨_, _, rfl⟩
        rw [hs] at hla hl0 hstep hpb hn1 hn3 hsv
        simp only at hn1 hl0
        subst hn1
        obtain ⟨a', rfl⟩ := (hT.out.below hbr).some_of (k := n) (by simpa using hn2)
        have hl9 := Lib.hid (fun wx (h : Below w.heap.size w wx) => (hT.out.below h).one (a := a') rfl (k := n) (by simpa using hn2) 9 (.int .i64 (t[n] 9)) (by rw [List.getElem_map]; rfl))
        rw [← hn3] at hl9
        have hcp := Lib.hid (fun wx (h : Below w.heap.size w wx) => spot_calls (some a') c' t n hn2 q (pt_kind hpb) wx (hT.out.below h))
        have hwi := pt_wi hpb z2.out
        have hR2 := hR.out
        rw [hstep, tmRun_cons] at hR2
        generalize ptG ((n : Int), q) t = g at hR2 hcp hl9 hsv hwi
        have hds := dsP_bd ax ay g.x g.y
        have hdc := Lib.hid (fun w => dist_ref ax ay g.x g.y w)
        generalize dsP ax ay g.x g.y = d at hR2 hds hdc
        have s1 : IntKind.i64.wrap (now + d) = now + d := IntWalk.i64_in _ (by omega)
        obtain ⟨wn, hwn⟩ : ∃ wn, mx (now + d) g.e = wn := ⟨_, rfl⟩
        have hwB : waB g.e g.l (now + d) = decide (wn ≤ g.l) := by unfold waB; rw [hwi, hwn]; rfl
        have hwnb := fun h => waN_bd (e := g.e) (l := g.l) (a := now + d) h
        have hwN : waB g.e g.l (now + d) = true → waN g.e g.l (now + d) = wn := fun h => by unfold waN; rw [if_pos h, hwn]
        have hmx : Hid (wn = if now + d < g.e then g.e else now + d) := Lib.hid (by rw [← hwn]; rfl)
        clear hwn hwi
        replace hwN := Lib.hid hwN
        replace hwB := Lib.hid hwB
        replace hwnb := Lib.hid hwnb
        replace hR2 := Lib.hid hR2
        have hla1 := Lib.hid (hla.out wr hbr)
        have hkm : ((k : Int) == -1) = false := beq_eq_false_iff_ne.2 (by omega)
        have hkm2 : ¬ (k : Int) = -1 := by omega
        go_upto_region 9 with fail
        go_wp2_with (first | (refine wpList_load_v rfl 75 _ rfl (a.add (k * 2)) rfl _ hla1.out ?_))
        refine (hcp.out wr hbr).mono ?_
        rintro e w4 ⟨rfl, hb4⟩
        have hM4 : Mod (fun _ => False) wr w4 := (Mod.refl _ _).after hb4
        have hgB4 : wr.heap.size ≤ w4.heap.size := hb4.size
        have hZP := Lib.hid ((Blk.new w4 #[.int .i64 0, .int .i64 0] 51).alloc (.cells #[.int .i64 0, .int .i64 0] 70))
        have hZW := Lib.hid (Blk.new' w4 (.cells #[.int .i64 0, .int .i64 0] 51) #[.int .i64 0, .int .i64 0] 70)
        have hMA := Lib.hid ((hM4.alloc (.cells #[.int .i64 0, .int .i64 0] 51)).alloc (.cells #[.int .i64 0, .int .i64 0] 70))
        clear hb4 hla1 hcp hM4
        go_upto_region 10 with (with_reducible refine wpList_selfF ?_; first | (refine wpList_store_row2 rfl 51 _ _ rfl rfl w4.heap.size rfl #[.int .i64 0, .int .i64 0] #[.int .i64 g.x, .int .i64 g.y] 51 hZP.out rfl rfl (pair_one _ _) (pl_size _ _) ?_; intro wz hBz hmz) | (refine wpList_store_row2 rfl 70 _ _ rfl rfl (w4.heap.size + 1) rfl #[.int .i64 0, .int .i64 0] #[.int .i64 g.e, .int .i64 g.l] 70 (hZW.out.mod hmz (by omega)) rfl rfl (pair_one _ _) (wi_size _ _) ?_; intro w7 hW7 hmy))
        have hM7 := (hMA.out.step hmz (fun r hr (e : r = w4.heap.size) => by omega)).step hmy (fun r hr (e : r = w4.heap.size + 1) => by omega)
        have hP7 := hBz.mod hmy (by omega)
        generalize w4.heap.size = bP at *
        clear hZP hZW hMA hBz hmz hmy
        have hlA := Lib.hid (run_load_row' (P := Tryz.prog) w7 gA 51 #[.int .i64 ax, .int .i64 ay] 51 _ (hA.mod hM7 (fun h => h)) Tryz.underlying51 rfl (pl_size _ _))
        have hlP := Lib.hid (run_load_row' (P := Tryz.prog) w7 bP 51 #[.int .i64 g.x, .int .i64 g.y] 51 _ hP7 Tryz.underlying51 rfl (pl_size _ _))
        have HP7 := Lib.hid hP7
        have HW7 := Lib.hid hW7
        replace hM7 := Lib.hid hM7
        have hgW : bP + 1 < w7.heap.size := hW7.lt
        clear hP7 hW7
        go_wp2_with (first | (refine wpList_load_v rfl 51 _ rfl ⟨gA, 0, none⟩ rfl _ hlA.out ?_) | (refine wpList_load_v rfl 51 _ rfl ⟨bP, 0, none⟩ rfl _ hlP.out ?_))
        refine (hdc.out _).mono ?_
        rintro e w8 ⟨rfl, hb8⟩
        have hM8 := Lib.hid (hM7.out.after hb8)
        have HP8 := Lib.hid (HP7.out.mod ((Mod.refl (fun _ => False) _).after hb8) (fun h => h))
        have HW8 := Lib.hid (HW7.out.mod ((Mod.refl (fun _ => False) _).after hb8) (fun h => h))
        have hgW8 : w7.heap.size ≤ w8.heap.size := hb8.size
        clear hb8 hM7 HP7 HW7 hlA hlP hdc
        go_upto_region 11 with fail
        generalize hbT : w8.heap.size = bT
        refine wp_world' (fun wx => Blk wx bP #[.int .i64 g.x, .int .i64 g.y] 51 ∧ Blk wx (bP + 1) #[.int .i64 g.e, .int .i64 g.l] 70 ∧ Blk wx bT (tmV (now + d, 0, 0)).toArray 141 ∧ Mod (fun _ => False) wr wx)
          ⟨HP8.out.alloc _, HW8.out.alloc _, by rw [← hbT]; exact Blk.new _ _ _, hM8.out.alloc _⟩ ?_
        rintro w9 ⟨hP9, hW9, hT9, hM9⟩
        have hlate0 := Lib.hid hW9
        have kT0 : w9.cell? ⟨bT, 0, none⟩ = some (.int .i64 (now + d)) := hT9.cell (i := 0) rfl
        have kT1 : w9.cell? ⟨bT, 1, none⟩ = some (.int .i64 0) := hT9.cell (i := 1) rfl
        have fT1 := hT9.froz 1
        have kW0 : w9.cell? ⟨bP + 1, 0, none⟩ = some (.int .i64 g.e) := hW9.cell (i := 0) rfl
        have hb9 := hbT.symm
        have hpre := Lib.hid (show Blk (w9.setCell ⟨bT, 1, none⟩ (.int .i64 wn)) bP #[.int .i64 g.x, .int .i64 g.y] 51 ∧ Blk (w9.setCell ⟨bT, 1, none⟩ (.int .i64 wn)) (bP + 1) #[.int .i64 g.e, .int .i64 g.l] 70 ∧ Blk (w9.setCell ⟨bT, 1, none⟩ (.int .i64 wn)) bT (tmV (now + d, wn, 0)).toArray 141 ∧ Mod (fun _ => False) wr (w9.setCell ⟨bT, 1, none⟩ (.int .i64 wn)) from
          ⟨hP9.other (show bP ≠ bT by omega) _, hW9.other (show bP + 1 ≠ bT by omega) _, hT9.set 1 _, hM9.setCell (p := ⟨bT, 1, none⟩) (fun h => absurd (show bT < wr.heap.size from h) (by omega)) _⟩)
        clear hP9 hW9 hT9 hM9 hM8 HP8 HW8 hb9 hlate0
        go_upto_region 12 with (with_reducible refine wpList_selfF ?_; refine wpList_v rfl (.int .i64 wn) (run_maxD hmx.out rfl rfl rfl) ?_)
        refine wp_world' (fun wx => Blk wx bP #[.int .i64 g.x, .int .i64 g.y] 51 ∧ Blk wx (bP + 1) #[.int .i64 g.e, .int .i64 g.l] 70 ∧ Blk wx bT (tmV (now + d, wn, 0)).toArray 141 ∧ Mod (fun _ => False) wr wx) hpre.out ?_
        clear hpre kT0 kT1 fT1 kW0
        rintro w10 ⟨hP10, hW10, hT10, hM10⟩
        have kT1 : w10.cell? ⟨bT, 1, none⟩ = some (.int .i64 wn) := hT10.cell (i := 1) rfl
        have kW1 : w10.cell? ⟨bP + 1, 1, none⟩ = some (.int .i64 g.l) := hW10.cell (i := 1) rfl
        have HP10 := Lib.hid hP10
        have HT10 := Lib.hid hT10
        replace hM10 := Lib.hid hM10
        clear hP10 hT10 hW10 hmx
        by_cases hlate : g.l < wn
        · have hX3 : X = ([], 0, 9) := by
            have := hR2.out
            rw [hwB.out, decide_eq_false (by omega), if_neg (by simp)] at this
            rw [hX2.out, this]
            rfl
          subst hX3
          clear hX2 hR2 hR hwnb hwB hwN
          go_wp2_with fail
          go_ret3
          exact tm_none rfl (hbr.trans (hM10.out.below hbr.size (fun _ h => h.elim)))
        · have hwt : waB g.e g.l (now + d) = true := by rw [hwB.out]; exact decide_eq_true (by omega)
          have hwq := hwnb.out hwt
          have hwN2 := hwN.out hwt
          rw [hwN2] at hwq
          have hR3 : Hid (tmRun t l x y st = (tmRun t (l.drop (k + 1)) g.x g.y (wn + g.s)).map fun q => ((L ++ [(now + d, wn, wn + g.s)]) ++ q.1, q.2)) := Lib.hid (by
            have := hR2.out
            rw [if_pos hwt, hwN2, Option.map_map] at this
            rw [this]
            congr 1
            funext q
            simp)
          have s2 : IntKind.i64.wrap (wn + g.s) = wn + g.s := IntWalk.i64_in _ (by omega)
          have s3 : IntKind.i64.wrap ((k : Int) + 1) = (k : Int) + 1 := IntWalk.i64_in _ (by omega)
          clear hR2 hR hX2 hwnb hwB hwN hwN2 hwt
          go_upto_region 16 with fail
          clear kT1 kW1
          have hbm := fun (wx : World) (h : Mod (fun _ => False) w10 wx) => hbr.trans ((hM10.out.trans h).below hbr.size (fun _ h => h.elim))
          have kk1 := Lib.hid (fun (wx : World) (h : Mod (fun _ => False) w10 wx) => run_i64 ((HT10.out.mod h (fun h => h)).cell (i := 1) rfl))
          have kk2 := Lib.hid (fun (wx : World) (h : Mod (fun _ => False) w10 wx) => (HT10.out.mod h (fun h => h)).cell (i := 2) rfl)
          have ff2 := Lib.hid (fun (wx : World) (h : Mod (fun _ => False) w10 wx) => (HT10.out.mod h (fun h => h)).froz 2)
          have hr0 := Lib.hid (fun (wx : World) (h : Mod (fun _ => False) w10 wx) => run_i64 (hl0.out wx (hbm wx h)))
          have hr9 := Lib.hid (fun (wx : World) (h : Mod (fun _ => False) w10 wx) => run_i64 (hl9.out wx (hbm wx h)))
          have hsm : -9223372036854775808 ≤ wn + g.s ∧ wn + g.s ≤ 9223372036854775807 := by omega
          refine wp_region_rove (X := Unit) () (fun x => [(73, .pointer (some ⟨bT, 1, none⟩)), (74, .int .i64 wn), (75, .slice (some a') t.length c'), (76, .slice (some a) l.length c), (77, .int .i64 (k : Int)), (78, .pointer (some (a.add (k * 2)))), (79, .pointer (some ((a.add (k * 2)).add 0))), (80, .int .i64 (n : Int)), (81, .pointer (some (a'.add (n * 10)))), (82, .pointer (some ((a'.add (n * 10)).add 9))), (83, .int .i64 g.s), (84, .int .i64 (wn + g.s)), (85, .pointer (some ⟨bT, 2, none⟩))])
            (fun _ d W' => StF w10 ⟨bT, 2, none⟩ (.int .i64 (wn + g.s)) (d 13) W') (by kernel_rfl) (by kernel_rfl) (by kernel_rfl) (by kernel_rfl) (fun x => by kernel_rfl)
            ⟨_, (Mod.refl _ _).drew, rfl⟩ ?_ ?_
          · intro aF hAF
            have E20 : ∀ x, (aF x).eval (.tmp 20) = .pointer (some ⟨bT, 0, none⟩) := by intro x; rw [hAF]; kernel_rfl
            have E2 : ∀ x, (aF x).eval (.tmp 2) = .slice (some a') t.length c' := by intro x; rw [hAF]; kernel_rfl
            have E1 : ∀ x, (aF x).eval (.tmp 1) = .slice (some a) l.length c := by intro x; rw [hAF]; kernel_rfl
            have E17 : ∀ x, (aF x).eval (.tmp 17) = .int .i64 (k : Int) := by intro x; rw [hAF]; kernel_rfl
            have T73 : ∀ x, (aF x).tmps[73]? = some (.pointer (some ⟨bT, 1, none⟩)) := by intro x; rw [hAF]; kernel_rfl
            have E73 : ∀ x, (aF x).eval (.tmp 73) = .pointer (some ⟨bT, 1, none⟩) := by intro x; rw [hAF]; kernel_rfl
            have T74 : ∀ x, (aF x).tmps[74]? = some (.int .i64 wn) := by intro x; rw [hAF]; kernel_rfl
            have E74 : ∀ x, (aF x).eval (.tmp 74) = .int .i64 wn := by intro x; rw [hAF]; kernel_rfl
            have T75 : ∀ x, (aF x).tmps[75]? = some (.slice (some a') t.length c') := by intro x; rw [hAF]; kernel_rfl
            have E75 : ∀ x, (aF x).eval (.tmp 75) = .slice (some a') t.length c' := by intro x; rw [hAF]; kernel_rfl
            have T76 : ∀ x, (aF x).tmps[76]? = some (.slice (some a) l.length c) := by intro x; rw [hAF]; kernel_rfl
            have E76 : ∀ x, (aF x).eval (.tmp 76) = .slice (some a) l.length c := by intro x; rw [hAF]; kernel_rfl
            have T77 : ∀ x, (aF x).tmps[77]? = some (.int .i64 (k : Int)) := by intro x; rw [hAF]; kernel_rfl
            have E77 : ∀ x, (aF x).eval (.tmp 77) = .int .i64 (k : Int) := by intro x; rw [hAF]; kernel_rfl
            have T78 : ∀ x, (aF x).tmps[78]? = some (.pointer (some (a.add (k * 2)))) := by intro x; rw [hAF]; kernel_rfl
            have E78 : ∀ x, (aF x).eval (.tmp 78) = .pointer (some (a.add (k * 2))) := by intro x; rw [hAF]; kernel_rfl
            have T79 : ∀ x, (aF x).tmps[79]? = some (.pointer (some ((a.add (k * 2)).add 0))) := by intro x; rw [hAF]; kernel_rfl
            have E79 : ∀ x, (aF x).eval (.tmp 79) = .pointer (some ((a.add (k * 2)).add 0)) := by intro x; rw [hAF]; kernel_rfl
            have T80 : ∀ x, (aF x).tmps[80]? = some (.int .i64 (n : Int)) := by intro x; rw [hAF]; kernel_rfl
            have E80 : ∀ x, (aF x).eval (.tmp 80) = .int .i64 (n : Int) := by intro x; rw [hAF]; kernel_rfl
            have T81 : ∀ x, (aF x).tmps[81]? = some (.pointer (some (a'.add (n * 10)))) := by intro x; rw [hAF]; kernel_rfl
            have E81 : ∀ x, (aF x).eval (.tmp 81) = .pointer (some (a'.add (n * 10))) := by intro x; rw [hAF]; kernel_rfl
            have T82 : ∀ x, (aF x).tmps[82]? = some (.pointer (some ((a'.add (n * 10)).add 9))) := by intro x; rw [hAF]; kernel_rfl
            have E82 : ∀ x, (aF x).eval (.tmp 82) = .pointer (some ((a'.add (n * 10)).add 9)) := by intro x; rw [hAF]; kernel_rfl
            have T83 : ∀ x, (aF x).tmps[83]? = some (.int .i64 g.s) := by intro x; rw [hAF]; kernel_rfl
            have E83 : ∀ x, (aF x).eval (.tmp 83) = .int .i64 g.s := by intro x; rw [hAF]; kernel_rfl
            have T84 : ∀ x, (aF x).tmps[84]? = some (.int .i64 (wn + g.s)) := by intro x; rw [hAF]; kernel_rfl
            have E84 : ∀ x, (aF x).eval (.tmp 84) = .int .i64 (wn + g.s) := by intro x; rw [hAF]; kernel_rfl
            have T85 : ∀ x, (aF x).tmps[85]? = some (.pointer (some ⟨bT, 2, none⟩)) := by intro x; rw [hAF]; kernel_rfl
            have E85 : ∀ x, (aF x).eval (.tmp 85) = .pointer (some ⟨bT, 2, none⟩) := by intro x; rw [hAF]; kernel_rfl
            replace hAF := Lib.hid hAF
            refine ⟨?_, ?_, ?_, ?_, ?_, ?_, ?_, ?_, ?_, ?_, ?_, ?_, ?_, ?_, trivial⟩
            · exact opOk3_quiet _ (by intro x t hd _; cases hd; exact T73 x) (fun _ => rfl) fun x d w' hd hc => sv (run_fldT rfl (E20 x) (fun _ => by kernel_rfl)) hc
            · exact opOk3_quietL _ (by intro x t hd _; cases hd; exact T74 x) (fun _ => rfl) fun x d w' hd hn hc => sv (run_load1 rfl (E73 x) (kk1.out _ (StF.m (by have n := hn 13 (by kernel_rfl); rw [n] at hc; exact hc)))) hc
            · exact opOk3_quiet _ (by intro x t hd _; cases hd; exact T75 x) (fun _ => rfl) fun x d w' hd hc => sv (run_mov rfl (E2 x)) hc
            · exact opOk3_quiet _ (by intro x t hd _; cases hd; exact T76 x) (fun _ => rfl) fun x d w' hd hc => sv (run_mov rfl (E1 x)) hc
            · exact opOk3_quiet _ (by intro x t hd _; cases hd; exact T77 x) (fun _ => rfl) fun x d w' hd hc => sv (run_mov rfl (E17 x)) hc
            · exact opOk3_quiet _ (by intro x t hd _; cases hd; exact T78 x) (fun _ => rfl) fun x d w' hd hc => sv (run_ixStF rfl (E76 x) (E77 x) hlt) hc
            · exact opOk3_quiet _ (by intro x t hd _; cases hd; exact T79 x) (fun _ => rfl) fun x d w' hd hc => sv (run_fldS0 rfl (E78 x)) hc
            · exact opOk3_quietL _ (by intro x t hd _; cases hd; exact T80 x) (fun _ => rfl) fun x d w' hd hn hc => sv (run_load1 rfl (E79 x) (hr0.out _ (StF.m (by have n := hn 13 (by kernel_rfl); rw [n] at hc; exact hc)))) hc
            · exact opOk3_quiet _ (by intro x t hd _; cases hd; exact T81 x) (fun _ => rfl) fun x d w' hd hc => sv (run_ixRq rfl (E75 x) (E80 x) hn2) hc
            · exact opOk3_quiet _ (by intro x t hd _; cases hd; exact T82 x) (fun _ => rfl) fun x d w' hd hc => sv (run_fldA rfl (E81 x)) hc
            · exact opOk3_quietL _ (by intro x t hd _; cases hd; exact T83 x) (fun _ => rfl) fun x d w' hd hn hc => sv (run_load1 rfl (E82 x) (hr9.out _ (StF.m (by have n := hn 13 (by kernel_rfl); rw [n] at hc; exact hc)))) hc
            · exact opOk3_quiet _ (by intro x t hd _; cases hd; exact T84 x) (fun _ => rfl) fun x d w' hd hc => sv (run_addD hsm rfl (E74 x) (E83 x)) hc
            · exact opOk3_quiet _ (by intro x t hd _; cases hd; exact T85 x) (fun _ => rfl) fun x d w' hd hc => sv (run_fldT rfl (E20 x) (fun _ => by kernel_rfl)) hc
            · exact opOk3_loud rfl fun x d w' hd hn hc => by
                  have n13 : d 13 = false := hn 13 (by kernel_rfl)
                  rw [n13] at hc
                  have hm := hc.m
                  refine sk_s (run_storeI rfl (E85 x) (E84 x) (kk2.out w' hm) (ff2.out w' hm)) ⟨x, agree_same _ _, (by intro t hd _; cases hd), ?_⟩
                  exact ⟨w', hm, rfl⟩
          · intro x' d' w12 hd' hc'
            simp only [putAll, List.foldl_cons, List.foldl_nil, Act.put, List.setIfInBounds_toArray, List.set_cons_succ, List.set_cons_zero]
            rw [hd' 13 (by decide)] at hc'
            obtain ⟨W0, hm0, hW0⟩ := hc'
            replace hW0 : w12 = W0.setCell ⟨bT, 2, none⟩ (.int .i64 (wn + g.s)) := hW0
            have hP12 : Blk w12 bP #[.int .i64 g.x, .int .i64 g.y] 51 := by rw [hW0]; exact (HP10.out.mod hm0 (fun h => h)).other (show bP ≠ bT by omega) _
            have hT12 : Blk w12 bT (tmV (now + d, wn, wn + g.s)).toArray 141 := by rw [hW0]; exact (HT10.out.mod hm0 (fun h => h)).set 2 _
            have hM12 : Mod (fun _ => False) wr w12 := by rw [hW0]; exact (hM10.out.trans hm0).setCell (p := ⟨bT, 2, none⟩) (fun h => absurd (show bT < wr.heap.size from h) (by omega)) _
            clear hm0 hW0 hd' kk1 kk2 ff2 hr0 hr9 hbm hsm HP10 HT10 hM10
            have hlT := Lib.hid (run_load_row' (P := Tryz.prog) w12 bT 141 (tmV (now + d, wn, wn + g.s)).toArray 141 _ hT12 Tryz.underlying141 rfl (tm_size _ _ _))
            have hbr12 := Lib.hid (hbr.trans (hM12.below hbr.size (fun _ h => h.elim)))
            have hownA := Lib.hid (own_mod (own_mod hown hM12 (fun _ _ h => h)) ((Mod.refl (fun _ => False) w12).alloc (.cells (tmV (now + d, wn, wn + g.s)).toArray 141)) (fun _ _ h => h))
            have hzA : gs ≤ (w12.alloc (.cells (tmV (now + d, wn, wn + g.s)).toArray 141)).heap.size := by have := hM12.size; simp; omega
            have hLl : L.length ≤ 100000 := by omega
            have hPA := Lib.hid (hP12.alloc (.cells (tmV (now + d, wn, wn + g.s)).toArray 141))
            have hTA := Lib.hid (hT12.alloc (.cells (tmV (now + d, wn, wn + g.s)).toArray 141))
            have hMA := Lib.hid (hM12.alloc (.cells (tmV (now + d, wn, wn + g.s)).toArray 141))
            clear hP12 hT12 hM12 hl0 hl9 hla
            replace hzA := Lib.hid hzA
            go_upto_region 18 with (first | (refine wpList_load_v rfl 141 _ rfl ⟨bT, 0, none⟩ rfl _ hlT.out ?_) | (refine wpList_bs1 rfl 99 1 0 _ rfl (.agg (tmV (now + d, wn, wn + g.s)).toArray) rfl _ _ (rsl_tm (now + d, wn, wn + g.s) _) ?_) |
              (refine wpList_appG tm_el rfl _ _ rfl gs hzA.out _ L.length _ rfl hownA.out hLl _ 1 1 (tmV (now + d, wn, wn + g.s)) rfl rfl (by omega) (row_cells (Blk.new _ _ _)) (tm_one _) ?_; intro v' w13 hown' hg'))
            have hne : ∀ b, wr.heap.size ≤ b → some b ≠ u16.ownBlock := fun b hb e => by have := (own_blk_lt hown e.symm).2; omega
            have hP13 := blk_grown hPA.out hg' (hne bP (by omega))
            have hT13 := blk_grown hTA.out hg' (hne bT (by omega))
            have hA13 := grown_blk (hA.mod hMA.out (fun h => h)) hownA.out (by omega) hg'
            have hV13 := grown_blk (hVr.mod hMA.out (fun h => h)) hownA.out (by omega) hg'
            have hb13 := grown_low (hbr.trans (hMA.out.below hbr.size (fun _ h => h.elim))) (by omega) (Nat.le_refl _) hownA.out hg'
            have hz13 : gs ≤ w13.heap.size := Nat.le_trans hzA.out hg'.size
            have kP0 := hP13.cell (i := 0) rfl
            have kP1 := hP13.cell (i := 1) rfl
            have kT2 := hT13.cell (i := 2) rfl
            have kA0 := hA13.cell (i := 0) rfl
            have kA1 := hA13.cell (i := 1) rfl
            have fA0 := hA13.froz 0
            have fA1 := hA13.froz 1
            have HA13 := Lib.hid hA13
            have HV13 := Lib.hid hV13
            have HB13 := Lib.hid hb13
            have HO13 := Lib.hid hown'
            clear hP13 hT13 hA13 hV13 hb13 hown' hg' hPA hTA hMA hownA hzA hlT hbr12 hown hA hVr hbr hne
            go_region
            clear kP0 kP1 kT2 kA0 kA1 fA0 fA1
            go_wp2_with fail
            go_roundw
            case rel =>
              have hmS : Mod (· = gA) w13 ((w13.setCell ⟨gA, 0, none⟩ (.int .i64 g.x)).setCell ⟨gA, 1, none⟩ (.int .i64 g.y)).drew :=
                (Mod.setCell (Mod.setCell (Mod.refl (· = gA) w13) (p := ⟨gA, 0, none⟩) (fun _ => rfl) _) (p := ⟨gA, 1, none⟩) (fun _ => rfl) _).drew
              have hO := own_mod HO13.out hmS (fun b hb e => by have := (own_blk_lt HO13.out hb).1; omega)
              have hD := HB13.out.trans (hmS.below HB13.out.size (fun b e => by omega))
              refine ⟨k + 1, L ++ [(now + d, wn, wn + g.s)], g.x, g.y, wn + g.s, by omega, by simp, rfl, by omega, by simp; omega, hR3, ?_, ((HA13.out.set 0 _).set 1 _).drew, HV13.out.mod hmS (by omega), hD, by simpa using hz13⟩
              rw [List.map_append, List.flatten_append, List.length_append]
              simpa using hO
            case measure => simp [intOf]; omega
      · obtain rfl : k = l.length := by omega
        have hR2 : tmRun t l x y st = some (L, ax, ay, now) := by
          have := hR.out
          rw [List.drop_length] at this
          rw [this]
          simp [tmRun]
        have hX3 : Hid (X = if en < now + dsP ax ay x y then ([], 0, 9) else (L, now + dsP ax ay x y, 0)) := Lib.hid (by rw [hX2.out, hR2])
        have hds := dsP_bd ax ay x y
        have hdc := Lib.hid (fun w => dist_ref ax ay x y w)
        generalize dsP ax ay x y = d at hX3 hds hdc
        have s1 : IntKind.i64.wrap (now + d) = now + d := IntWalk.i64_in _ (by omega)
        have hlA := Lib.hid (run_load_row' (P := Tryz.prog) wr gA 51 #[.int .i64 ax, .int .i64 ay] 51 _ hA Tryz.underlying51 rfl (pl_size _ _))
        have hlH := Lib.hid (hlh.out wr hVr)
        clear hR hR2 hX2 hlh hA
        go_wp2_with (first | (refine wpList_load_v rfl 51 _ rfl ⟨gA, 0, none⟩ rfl _ hlA.out ?_) | (refine wpList_load_v rfl 51 _ rfl ⟨w.heap.size, 0, none⟩ rfl _ hlH.out ?_))
        refine (hdc.out _).mono ?_
        rintro e w4 ⟨rfl, hb4⟩
        have hown4 := Lib.hid (own_below hown hb4)
        have k4 := (hVr.mod ((Mod.refl (fun _ => False) _).after hb4) (fun h => h)).cell g4
        have hbe := Lib.hid (hbr.trans (hb4.mono hbr.size))
        clear hown hVr hbr hb4 hlA hlH hdc
        by_cases hlate : en < now + d
        · obtain rfl : X = ([], 0, 9) := by rw [hX3.out, if_pos hlate]
          clear hX3
          go_wp2_with fail
          go_ret3
          exact tm_none rfl hbe.out
        · obtain rfl : X = (L, now + d, 0) := by rw [hX3.out, if_neg hlate]
          clear hX3
          go_wp2_with fail
          go_ret3
          obtain ⟨p0, m0, c0, rfl⟩ := own_isS hown4.out
          have hEl := own_els (tmV_len L) (by simpa using hown4.out) (by simp; omega)
          simp only [List.length_map] at hEl
          obtain ⟨h1, rfl, h3, h4⟩ := hEl
          exact ⟨p0, c0, rfl, hbe.out, h1, h3, own_cap hown4.out, fun a ha => ⟨by have := (h4 a ha).1; omega, (h4 a ha).2.2⟩⟩
  · have hX2 : X = ([], 0, wr) := hX.out.trans (if_pos v0)
    have d1 : (wr == 0) = false := beq_eq_false_iff_ne.2 v0
    have d2 : (wr != 0) = true := by rw [bne, d1]; rfl
    subst hX2
    clear hX hz
    go_wp2_with fail
    go_ret3
    exact tm_none rfl hb2
end Go.Proofs.YtdmnoogppmckaaaGreat
