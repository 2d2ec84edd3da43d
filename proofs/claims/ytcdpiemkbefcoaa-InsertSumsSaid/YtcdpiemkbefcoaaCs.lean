/-
  Layer 11, the document's: Case.
-/
import Derived.Test.YtcdpiemkbefcoaaDp
import Derived.Test.YtcdpiemkbefcoaaAg
namespace Go.Proofs.Ytcdpiemkbefcoaa
open Go.RowKit

theorem Els.modb {w w' : World} {p : Option Addr} {n : Nat} {R : List (List Value)} (h : Els w p n R) {S : Nat → Prop} (hm : Mod S w w') (hs : ∀ a, p = some a → ¬ S a.block) : Els w' p n R :=
  ⟨h.nil, h.len, h.big, fun a ha k x j v hk hj => hm.cell_of (by rw [add_block]; exact hs a ha) (h.cells a ha k x j v hk hj)⟩
theorem res_cttt {P : Program} {fn : Func} {p q r s : Tmp} {ty : TypeId} (h : fn.results = #[.cell p ty, .tmp q, .tmp r, .tmp s]) {tmps : Array Value} {w : World} {g : Nat} {v : Value}
    (hp : tmps.getD p undef = .pointer (some ⟨g, 0, none⟩)) (hrun : (loadVar ty ⟨g, 0, none⟩).run P w = .ok v w) :
    (results fn tmps).run P w = .ok (.tuple #[v, tmps.getD q undef, tmps.getD r undef, tmps.getD s undef]) w := by
  have hp' : tmps[p]?.getD undef = .pointer (some ⟨g, 0, none⟩) := by simpa using hp
  simp [results, h, hp', asAddr, hrun]
section
variable {ρ : Operand → Value} {o : Oper} {w : World} {x y : Operand} {p : Option Addr} {n c : Nat}
theorem run_lenRq (ho : o.op = .call { callee := .builtin .len, args := #[x], argTypes := #[30] }) (hx : ρ x = .slice p n c) : (execOp ρ o).run Try.prog w = .ok (.value (.int .i64 n)) w := by
  unfold execOp
  simp only [ho]
  go_simp
theorem run_sub1 {m k : Int} (hm : m = k - 1) (hb : -9223372036854775808 ≤ m ∧ m ≤ 9223372036854775807) (ho : o.op = .binOp .sub 3 x (.const (.int .i64 1)) 3) (hx : ρ x = .int .i64 k) (hc : ρ (.const (.int .i64 1)) = .int .i64 1) : (execOp ρ o).run Try.prog w = .ok (.value (.int .i64 m)) w := by
  subst hm
  have h := IntWalk.i64_in (k - 1) hb
  unfold execOp
  simp only [ho, hx, hc]
  go_simp
theorem run_callWo {u v : Value} (ho : o.op = .call { callee := .value (.func 28), args := #[x, y], argTypes := #[29, 3] }) (hx : ρ x = u) (hy : ρ y = v)
    (hf : ρ (.func 28) = .func (.func 28) #[] #[] := by rfl) : (execOp ρ o).run Try.prog w = .ok (.enter 28 #[u, v]) w := by
  unfold execOp
  simp only [ho]
  go_simp
end
structure CsV (V Z : Array Value) (w : World) (bR : Nat) (M : List (Int × Int)) (x : Option Addr × Nat) (c s : Bool) (W : World) : Prop where
  m : Mod (fun k => k = bR) w W
  b : Blk W bR (bif s then V else Z) 28
  r : c = true → (M.length ≤ x.2 ∧ x.2 ≤ 9223372036854775807) ∧ Els W x.1 2 (M.map stV) ∧ (∀ a, x.1 = some a → a.block ≠ bR)
/-- what a draft's case is: its last request is not in the route -/
def dcL (B : List Int) (n wd : Int) : List (Int × Int) := woP (dpL B n) (((dpT B n wd).length : Int) - 1)
def DcPost (w : World) (B : List Int) (n wd : Int) (e : Ending) (w' : World) : Prop :=
  (∃ q d q' d', e = .returned (.tuple #[.agg (veR (dpV B n)).toArray, .slice q (dcL B n wd).length d, .slice q' (dpT B n wd).length d', .int .i64 (((dpT B n wd).length : Int) - 1)]) ∧ ((dcL B n wd).length ≤ d ∧ d ≤ 9223372036854775807) ∧ ((dpT B n wd).length ≤ d' ∧ d' ≤ 9223372036854775807) ∧
    Els w' q 2 ((dcL B n wd).map stV) ∧ Els w' q' 10 ((dpT B n wd).map rqV)) ∧ Below w.heap.size w w'
theorem dpT_len (B : List Int) (n wd : Int) : (dpT B n wd).length = dpN n := drT_len _ _ _ _
theorem dpN_le (n : Int) : dpN n ≤ 6 := by
  unfold dpN
  have := Int.emod_lt_of_pos n (show (0 : Int) < 7 by omega)
  omega
theorem dpL_len (B : List Int) (n : Int) : (dpL B n).length = 2 * dpN n := drRt_len _ _ _ _

set_option maxHeartbeats 4000000 in
set_option maxRecDepth 100000 in
theorem dcase_calls (p : Option Addr) (c : Nat) (B : List Int) (n wd k : Int) (w : World) (hA : DrA w p B n wd) :
    Calls Try.prog 10 #[.agg (drC p c B n wd k)] w (DcPost w B n wd) := by
  have hpc := Lib.hid (fun wx (h : DrA wx p B n wd) => dparts_calls p c B n wd k wx h)
  have hT6 := dpT_len B n wd
  have hN6 := dpN_le n
  have hL12 := dpL_len B n
  have hdc : dcL B n wd = woP (dpL B n) (((dpT B n wd).length : Int) - 1) := rfl
  have hw12 := woP_len (dpL B n) (((dpT B n wd).length : Int) - 1)
  unfold DcPost
  unfold DpPost at hpc
  rw [← hdc] at hw12
  generalize dcL B n wd = M at *
  generalize dpT B n wd = T at *
  generalize dpL B n = L at *
  generalize dpV B n = V' at *
  obtain ⟨V, hV⟩ : ∃ V, (veR V').toArray = V := ⟨_, rfl⟩
  have hVs : V.size = 5 := by rw [← hV]; rfl
  have hV1 : ∀ v ∈ V.toList, v.oneCell' = true := by rw [← hV]; simp [veR, Value.oneCell']
  rw [hV] at hpc ⊢
  clear hV
  have hT6' : T.length ≤ 6 := by omega
  have hL12' : L.length ≤ 12 := by omega
  replace hdc := Lib.hid hdc
  clear hT6 hN6 hL12
  obtain ⟨C, hC⟩ : ∃ C, drC p c B n wd k = C := ⟨_, rfl⟩
  have hCs : C.size = 4 := by rw [← hC]; rfl
  rw [hC] at hpc ⊢
  obtain ⟨Z, hZ⟩ : ∃ Z : Array Value, Z = #[.int .i64 0, .int .i64 0, .int .i64 0, .int .i64 0, .int .i64 0] := ⟨_, rfl⟩
  have hZs : Z.size = 5 := by rw [hZ]; rfl
  have hB0 := (Blk.new w C 24).alloc (.cells Z 28)
  have hB1 := Blk.new' w (.cells C 24) Z 28
  have hb1 := (new_below w (.cells C 24)).alloc (by simp) (.cells Z 28)
  have hA1 := hA.below hb1
  replace hB0 := Lib.hid hB0
  replace hB1 := Lib.hid hB1
  replace hb1 := Lib.hid hb1
  replace hA1 := Lib.hid hA1
  clear hA hC
  go_enter Try.func10, Try.ntmps10
  go_upto_region 1 with fail
  rw [← hZ]
  clear hZ
  refine wp_world' (fun wx => Blk wx w.heap.size C 24 ∧ Blk wx (w.heap.size + 1) Z 28 ∧ DrA wx p B n wd ∧ Below w.heap.size w wx) ⟨hB0.out, hB1.out, hA1.out, hb1.out⟩ ?_
  clear hB0 hB1 hA1 hb1
  rintro w1 ⟨hD, hB, hA, hb⟩
  have hld := Lib.hid (run_load_row' (P := Try.prog) w1 _ 24 C 24 _ hD Try.underlying24 rfl (by rw [hCs]; kernel_rfl))
  have hgt := hB.lt
  replace hB := Lib.hid hB
  replace hb := Lib.hid hb
  clear hD
  go_wp2_with (refine wpList_load_v rfl 24 _ rfl ⟨w.heap.size, 0, none⟩ rfl _ hld.out ?_)
  refine (hpc.out _ hA).mono ?_
  rintro e w2 ⟨⟨qL, dL, qT, dT, rfl, hdL, hdT, hEL, hET, hqL, hqT⟩, hb2⟩
  have hB2 := hB.out.mod ((Mod.refl (fun _ => False) _).after hb2) (fun h => h)
  replace hb2 := hb.out.trans (hb2.mono hb.out.size)
  clear hpc hA hB hb hld
  have mA := (Mod.refl (fun _ => False) w2).alloc (.cells V 28)
  have P3 := Lib.hid (show Blk (w2.alloc (.cells V 28)) (w.heap.size + 1) Z 28 ∧ Blk (w2.alloc (.cells V 28)) w2.heap.size V 28 ∧ Els (w2.alloc (.cells V 28)) qL 2 (L.map stV) ∧ Els (w2.alloc (.cells V 28)) qT 10 (T.map rqV) ∧ Below w.heap.size w (w2.alloc (.cells V 28)) ∧ w.heap.size + 1 < w2.heap.size from
    ⟨hB2.mod mA (fun h => h), Blk.new _ _ _, hEL.modb mA (fun _ _ h => h), hET.modb mA (fun _ _ h => h), hb2.alloc hb2.size _, hB2.lt⟩)
  clear hEL hET hB2 hb2 mA
  go_upto_region 2 with (refine wpList_store_new rfl 28 _ _ rfl rfl rfl _ V _ rfl (by rw [hVs]; rfl) hV1 (by rw [hVs]; kernel_rfl) ?_)
  refine wp_world' (fun wx => Blk wx (w.heap.size + 1) Z 28 ∧ Blk wx w2.heap.size V 28 ∧ Els wx qL 2 (L.map stV) ∧ Els wx qT 10 (T.map rqV) ∧ Below w.heap.size w wx ∧ w.heap.size + 1 < w2.heap.size) P3.out ?_
  clear P3
  generalize w2.heap.size = g6
  rintro w3 ⟨hB3, hV3, hEL3, hET3, hb3, hg6⟩
  have hlv := Lib.hid (fun (wx : World) (h : Mod (fun k => k = w.heap.size + 1) w3 wx) => run_load_row' (P := Try.prog) wx g6 28 V 28 _ (hV3.mod h (by omega)) Try.underlying28 rfl (by rw [hVs]; kernel_rfl))
  have hqLb : ∀ a, qL = some a → a.block ≠ w.heap.size + 1 := fun a ha => by have := hqL a ha; omega
  have hqTb : ∀ a, qT = some a → a.block ≠ w.heap.size + 1 := fun a ha => by have := hqT a ha; omega
  have hwo := Lib.hid (fun (wx : World) (h : Mod (fun k => k = w.heap.size + 1) w3 wx) => (by
    have := rwithout_calls qL dL L ((T.length : Int) - 1) wx (hEL3.modb h hqLb) (by omega)
    rwa [← hdc.out] at this : Calls Try.prog 28 #[.slice qL L.length dL, .int .i64 ((T.length : Int) - 1)] wx fun e w' => (∃ q d, e = .returned (.slice q M.length d) ∧ (M.length ≤ d ∧ d ≤ 9223372036854775807) ∧ Els w' q 2 (M.map stV) ∧ (∀ a, q = some a → wx.heap.size ≤ a.block)) ∧ Below wx.heap.size wx w'))
  have hz3 := hB3.lt
  replace hB3 := Lib.hid hB3
  replace hb3 := Lib.hid hb3
  replace hET3 := Lib.hid hET3
  clear hV3 hEL3
  refine wp_region_rove (X := Option Addr × Nat) (none, 0) (fun x => [(15, .agg V), (16, .slice qL L.length dL), (17, .slice qT T.length dT), (18, .int .i64 T.length), (19, .int .i64 ((T.length : Int) - 1)), (21, .slice qT T.length dT), (22, .slice qT T.length dT), (23, .int .i64 T.length), (24, .int .i64 ((T.length : Int) - 1)), (4, .slice qT T.length dT), (5, .int .i64 ((T.length : Int) - 1))] ++ [(20, .slice x.1 M.length x.2), (3, .slice x.1 M.length x.2)])
    (fun x d W' => CsV V Z w3 (w.heap.size + 1) M x (d 5) (d 10) W') (by kernel_rfl) (by kernel_rfl) (by kernel_rfl) (by kernel_rfl) (fun x => by kernel_rfl)
    ⟨(Mod.refl _ _).drew, hB3.out.drew, fun h => by cases h⟩ ?_ ?_
  · intro aF hAF
    have E6 : ∀ x, (aF x).eval (.tmp 6) = .pointer (some ⟨g6, 0, none⟩) := by intro x; rw [hAF]; kernel_rfl
    have E7 : ∀ x, (aF x).eval (.tmp 7) = .slice qL L.length dL := by intro x; rw [hAF]; kernel_rfl
    have E8 : ∀ x, (aF x).eval (.tmp 8) = .slice qT T.length dT := by intro x; rw [hAF]; kernel_rfl
    have E2 : ∀ x, (aF x).eval (.tmp 2) = .pointer (some ⟨w.heap.size + 1, 0, none⟩) := by intro x; rw [hAF]; kernel_rfl
    have T15 : ∀ x, (aF x).tmps[15]? = some (.agg V) := by intro x; rw [hAF]; kernel_rfl
    have E15 : ∀ x, (aF x).eval (.tmp 15) = .agg V := by intro x; rw [hAF]; kernel_rfl
    have T16 : ∀ x, (aF x).tmps[16]? = some (.slice qL L.length dL) := by intro x; rw [hAF]; kernel_rfl
    have E16 : ∀ x, (aF x).eval (.tmp 16) = .slice qL L.length dL := by intro x; rw [hAF]; kernel_rfl
    have T17 : ∀ x, (aF x).tmps[17]? = some (.slice qT T.length dT) := by intro x; rw [hAF]; kernel_rfl
    have E17 : ∀ x, (aF x).eval (.tmp 17) = .slice qT T.length dT := by intro x; rw [hAF]; kernel_rfl
    have T18 : ∀ x, (aF x).tmps[18]? = some (.int .i64 T.length) := by intro x; rw [hAF]; kernel_rfl
    have E18 : ∀ x, (aF x).eval (.tmp 18) = .int .i64 T.length := by intro x; rw [hAF]; kernel_rfl
    have T19 : ∀ x, (aF x).tmps[19]? = some (.int .i64 ((T.length : Int) - 1)) := by intro x; rw [hAF]; kernel_rfl
    have E19 : ∀ x, (aF x).eval (.tmp 19) = .int .i64 ((T.length : Int) - 1) := by intro x; rw [hAF]; kernel_rfl
    have T20 : ∀ x, (aF x).tmps[20]? = some (.slice x.1 M.length x.2) := by intro x; rw [hAF]; kernel_rfl
    have E20 : ∀ x, (aF x).eval (.tmp 20) = .slice x.1 M.length x.2 := by intro x; rw [hAF]; kernel_rfl
    have T21 : ∀ x, (aF x).tmps[21]? = some (.slice qT T.length dT) := by intro x; rw [hAF]; kernel_rfl
    have E21 : ∀ x, (aF x).eval (.tmp 21) = .slice qT T.length dT := by intro x; rw [hAF]; kernel_rfl
    have T22 : ∀ x, (aF x).tmps[22]? = some (.slice qT T.length dT) := by intro x; rw [hAF]; kernel_rfl
    have E22 : ∀ x, (aF x).eval (.tmp 22) = .slice qT T.length dT := by intro x; rw [hAF]; kernel_rfl
    have T23 : ∀ x, (aF x).tmps[23]? = some (.int .i64 T.length) := by intro x; rw [hAF]; kernel_rfl
    have E23 : ∀ x, (aF x).eval (.tmp 23) = .int .i64 T.length := by intro x; rw [hAF]; kernel_rfl
    have T24 : ∀ x, (aF x).tmps[24]? = some (.int .i64 ((T.length : Int) - 1)) := by intro x; rw [hAF]; kernel_rfl
    have E24 : ∀ x, (aF x).eval (.tmp 24) = .int .i64 ((T.length : Int) - 1) := by intro x; rw [hAF]; kernel_rfl
    have T3 : ∀ x, (aF x).tmps[3]? = some (.slice x.1 M.length x.2) := by intro x; rw [hAF]; kernel_rfl
    have T4 : ∀ x, (aF x).tmps[4]? = some (.slice qT T.length dT) := by intro x; rw [hAF]; kernel_rfl
    have T5 : ∀ x, (aF x).tmps[5]? = some (.int .i64 ((T.length : Int) - 1)) := by intro x; rw [hAF]; kernel_rfl
    replace hAF := Lib.hid hAF
    refine ⟨?_, ?_, ?_, ?_, ?_, ?_, ?_, ?_, ?_, ?_, ?_, ?_, ?_, ?_, trivial⟩
    · exact opOk3_quiet _ (by intro x t hd _; cases hd; exact T15 x) (fun _ => rfl) fun x d w' hd hc => sv (run_load1 rfl (E6 x) (hlv.out _ hc.m)) hc
    · exact opOk3_quiet _ (by intro x t hd _; cases hd; exact T16 x) (fun _ => rfl) fun x d w' hd hc => sv (run_mov rfl (E7 x)) hc
    · exact opOk3_quiet _ (by intro x t hd _; cases hd; exact T17 x) (fun _ => rfl) fun x d w' hd hc => sv (run_mov rfl (E8 x)) hc
    · exact opOk3_quiet _ (by intro x t hd _; cases hd; exact T18 x) (fun _ => rfl) fun x d w' hd hc => sv (run_lenRq rfl (E17 x)) hc
    · exact opOk3_quiet _ (by intro x t hd _; cases hd; exact T19 x) (fun _ => rfl) fun x d w' hd hc => sv (run_sub1 rfl (by omega) rfl (E18 x) rfl) hc
    · exact opOk3_loud rfl fun x d w' hd hn hc => by
        refine sk (run_callWo rfl (E16 x) (E19 x)) ((hwo.out w' hc.m).mono ?_)
        rintro e w'' ⟨⟨q2, d2, rfl, hd2, hE2, hq2⟩, hb'⟩
        have hM := (Mod.refl (fun _ => False) w').after hb'
        refine ⟨_, rfl, (q2, d2), (by rw [hAF.out]; exact agree_any (by kernel_rfl) (by kernel_rfl)), (by intro t hd _; cases hd; exact T20 _), ?_⟩
        show CsV V Z w3 (w.heap.size + 1) M _ true (d 10) _
        exact ⟨hc.m.trans (hM.mono fun _ _ h => h.elim), hc.b.mod hM (fun h => h), fun _ => ⟨hd2, hE2, fun a ha => by have := hq2 a ha; have := hc.m.size; omega⟩⟩
    · exact opOk3_quiet _ (by intro x t hd _; cases hd; exact T21 x) (fun _ => rfl) fun x d w' hd hc => sv (run_mov rfl (E8 x)) hc
    · exact opOk3_quiet _ (by intro x t hd _; cases hd; exact T22 x) (fun _ => rfl) fun x d w' hd hc => sv (run_mov rfl (E8 x)) hc
    · exact opOk3_quiet _ (by intro x t hd _; cases hd; exact T23 x) (fun _ => rfl) fun x d w' hd hc => sv (run_lenRq rfl (E22 x)) hc
    · exact opOk3_quiet _ (by intro x t hd _; cases hd; exact T24 x) (fun _ => rfl) fun x d w' hd hc => sv (run_sub1 rfl (by omega) rfl (E23 x) rfl) hc
    · exact opOk3_loud rfl fun x d w' hd hn hc => by
        have hS : ∃ C0 : Array Value, C0.size = 5 ∧ Blk w' (w.heap.size + 1) C0 28 := by
          cases hd10 : d 10
          · exact ⟨Z, hZs, by have := hc.b; rw [hd10] at this; exact this⟩
          · exact ⟨V, hVs, by have := hc.b; rw [hd10] at this; exact this⟩
        obtain ⟨C0, hC0, hBC⟩ := hS
        refine sk_s (run_storeP (ty := 28) rfl (E2 x) (E15 x) (run_storeVar_row w' (w.heap.size + 1) 28 C0 V 28 hBC (by rw [hC0, hVs]) hV1 (by rw [hVs]; kernel_rfl))) ⟨x, agree_same _ _, (by intro t hd _; cases hd), ?_⟩
        have hM : Mod (fun k => k = w.heap.size + 1) w' (w'.setRow (w.heap.size + 1) V) := mod_row _ _ _
        show CsV V Z w3 (w.heap.size + 1) M _ (d 5) true _
        refine ⟨hc.m.trans hM, ?_, fun h => ?_⟩
        · exact setRow_heap w' (w.heap.size + 1) C0 V 28 (0, 0) hBC
        · obtain ⟨h1, h2, h3⟩ := hc.r h
          exact ⟨h1, h2.modb hM h3, h3⟩
    · exact opOk3_quiet _ (by intro x t hd _; cases hd; exact T3 x) (fun _ => rfl) fun x d w' hd hc => sv (run_asg rfl (E20 x)) hc
    · exact opOk3_quiet _ (by intro x t hd _; cases hd; exact T4 x) (fun _ => rfl) fun x d w' hd hc => sv (run_asg rfl (E21 x)) hc
    · exact opOk3_quiet _ (by intro x t hd _; cases hd; exact T5 x) (fun _ => rfl) fun x d w' hd hc => sv (run_asg rfl (E24 x)) hc
  · intro x d w4 hd hc
    simp only [putAll, List.foldl_cons, List.foldl_nil, List.cons_append, List.nil_append, Act.put, List.setIfInBounds_toArray, List.set_cons_succ, List.set_cons_zero]
    rw [hd 5 (by decide), hd 10 (by decide)] at hc
    obtain ⟨h1, h2, _⟩ := hc.r rfl
    have hB4 : Blk w4 (w.heap.size + 1) V 28 := hc.b
    have hET4 := Lib.hid (hET3.out.modb hc.m hqTb)
    have hb4 := Lib.hid (hb3.out.trans (hc.m.below hb3.out.size (fun k h => by have : k = w.heap.size + 1 := h; omega)))
    replace h2 := Lib.hid h2
    clear hc hd
    go_wp2_with fail
    exact bodyPost_ret (res_cttt (v := .agg V) rfl rfl (run_load_row' (P := Try.prog) w4 _ 28 _ 28 _ hB4 Try.underlying28 rfl (by rw [hVs]; kernel_rfl))) rfl ⟨⟨x.1, x.2, qT, dT, rfl, h1, hdT, h2.out, hET4.out⟩, hb4.out⟩
end Go.Proofs.Ytcdpiemkbefcoaa
