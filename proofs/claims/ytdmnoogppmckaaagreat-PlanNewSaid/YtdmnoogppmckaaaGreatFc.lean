/-
  Layer 9: the program's feas.Check.
-/
import Derived.Test.YtdmnoogppmckaaaGreatFs
namespace Go.Proofs.YtdmnoogppmckaaaGreat
open Go.RowKit

/-- the route gone along: some, if every stop may stand, there is room, and none is late; where, when, how much is on board -/
def fsRun (cp : Int) (t : List Rq) : List (Int × Int) → (Int → Option Int) → Int → Int → Int → Int → Option (Int × Int × Int × Int)
  | [], _, ax, ay, now, bd => some (ax, ay, now, bd)
  | s :: r, m, ax, ay, now, bd =>
    if stB t.length m s = true ∧ ldE cp s.2 bd (t.getD s.1.toNat rqZ0 8) = 0 ∧ ¬ gB s.2 (t.getD s.1.toNat rqZ0) ax ay now > gL s.2 (t.getD s.1.toNat rqZ0) then
      fsRun cp t r (stM t.length m s) (gX s.2 (t.getD s.1.toNat rqZ0)) (gY s.2 (t.getD s.1.toNat rqZ0)) (gB s.2 (t.getD s.1.toNat rqZ0) ax ay now + t.getD s.1.toNat rqZ0 9) (ldB s.2 bd (t.getD s.1.toNat rqZ0 8))
    else none
def fsEnd (x y en : Int) : Option (Int × Int × Int × Int) → Bool
  | none => false
  | some (ax, ay, now, bd) => decide (¬ bd > 0 ∧ ¬ now + dsP ax ay x y > en)
/-- is the route right? -/
def fsB (x y cp st en : Int) (l : List (Int × Int)) (t : List Rq) : Bool :=
  decide (vehCode x y cp st en = 0) && (t.all fun q => rqE q == 0) && decide (l.length ≤ 16) && fsEnd x y en (fsRun cp t l (fun _ => none) x y st 0)

def FsPost (w : World) (B : Bool) (e : Ending) (w' : World) : Prop :=
  (B = true → e = .returned .nilIface) ∧ (B = false → ∃ b, e = .returned (.iface 196 (.pointer (some ⟨b, 0, none⟩)))) ∧ Below w.heap.size w w'
theorem FsPost.no {w w' : World} {b : Nat} (hb : Below w.heap.size w w') : FsPost w false (.returned (.iface 196 (.pointer (some ⟨b, 0, none⟩)))) w' := ⟨(fun h => by cases h), (fun _ => ⟨b, rfl⟩), hb⟩
theorem FsPost.yes {w w' : World} (hb : Below w.heap.size w w') : FsPost w true (.returned .nilIface) w' := ⟨(fun _ => rfl), (fun h => by cases h), hb⟩

theorem run_walk (x y cp st en : Int) (p' : Option Addr) (n c' mb : Nat) (w : World) : (Instr.build 163 #[(0, .agg #[.int .i64 x, .int .i64 y, .int .i64 cp, .int .i64 st, .int .i64 en]), (1, .slice p' n c'), (2, .map (some mb)), (3, .agg #[.int .i64 x, .int .i64 y]), (4, .int .i64 st)]).run Tryz.prog w = .ok (.agg (wkR x y cp st en p' n c' mb x y st 0)) w := by kernel_rfl

/-- while the three asks of a stop are made: what stands behind each -/
def FsI (x y cp st en : Int) (p' : Option Addr) (c' mb g N : Nat) (t : List Rq) (m : Int → Option Int) (ax ay now bd : Int) (s : Int × Int) (q : Rq) : Nat → World → Prop
  | 0, W => MapI W mb N m ∧ Blk W g (wkR x y cp st en p' t.length c' mb ax ay now bd) 163
  | 1, W => stB t.length m s = true ∧ MapI W mb (N + 1) (stM t.length m s) ∧ Blk W g (wkR x y cp st en p' t.length c' mb ax ay now bd) 163
  | 2, W => stB t.length m s = true ∧ ldE cp s.2 bd (q 8) = 0 ∧ MapI W mb (N + 1) (stM t.length m s) ∧ Blk W g (wkR x y cp st en p' t.length c' mb ax ay now (ldB s.2 bd (q 8))) 163
  | _, W => stB t.length m s = true ∧ ldE cp s.2 bd (q 8) = 0 ∧ ¬ gB s.2 q ax ay now > gL s.2 q ∧ MapI W mb (N + 1) (stM t.length m s) ∧ Blk W g (wkR x y cp st en p' t.length c' mb (gX s.2 q) (gY s.2 q) (gB s.2 q ax ay now + q 9) (ldB s.2 bd (q 8))) 163

theorem rq_lt {w : World} {p : Option Addr} {t : List Rq} {a : Addr} (h : Els w p 10 (t.map rqV)) (ha : p = some a) (hn : 0 < t.length) : a.block < w.heap.size := by
  have h1 := h.one ha (k := 0) (by simpa using hn) 0 (.int .i64 (t[0] 0)) (by simp [rqV])
  have h2 := World.block_lt_of_cell? w _ h1
  rwa [addr_block, addr_block] at h2
theorem stB_true {T : Nat} {m : Int → Option Int} {s : Int × Int} (h : stB T m s = true) : 0 ≤ s.1 ∧ s.1 < T ∧ s.2 < 2 ∧ (m s.1).getD 0 = s.2 := by
  have := of_decide_eq_true h
  omega
theorem loads_calls' (g mb : Nat) (x y cp st en : Int) (p' : Option Addr) (c' : Nat) (t : List Rq) (ax ay now bd : Int) (r k : Int) (w : World) (hB : Blk w g (wkR x y cp st en p' t.length c' mb ax ay now bd) 163) (hT : Els w p' 10 (t.map rqV)) (hr : 0 ≤ r ∧ r < t.length)
    (hbd : -1000000 ≤ bd ∧ bd ≤ 1000000) (hq : 0 ≤ t.getD r.toNat rqZ0 8 ∧ t.getD r.toNat rqZ0 8 ≤ 1000) :
    Calls Tryz.prog 93 #[.pointer (some ⟨g, 0, none⟩), .agg #[.int .i64 r, .int .i64 k]] w fun e w' => e = .returned (.int .i64 (ldE cp k bd (t.getD r.toNat rqZ0 8))) ∧ Blk w' g (wkR x y cp st en p' t.length c' mb ax ay now (ldB k bd (t.getD r.toNat rqZ0 8))) 163 ∧ Mod (· = g) w w' := by
  obtain ⟨n, rfl⟩ := Int.eq_ofNat_of_zero_le hr.1
  have hn : n < t.length := by omega
  rw [Int.toNat_natCast, getD_at t hn] at hq ⊢
  exact loads_calls g mb x y cp st en p' c' t ax ay now bd n k w hB hT hn hbd hq
theorem goes_calls' (g mb : Nat) (x y cp st en : Int) (p' : Option Addr) (c' : Nat) (t : List Rq) (ax ay now bd : Int) (r k : Int) (w : World) (hB : Blk w g (wkR x y cp st en p' t.length c' mb ax ay now bd) 163) (hT : Els w p' 10 (t.map rqV)) (hr : 0 ≤ r ∧ r < t.length) (hag : ∀ a, p' = some a → a.block ≠ g)
    (hnow : 0 ≤ now ∧ now ≤ 10000000) (hea : 0 ≤ gE k (t.getD r.toNat rqZ0) ∧ gE k (t.getD r.toNat rqZ0) ≤ 10000000) (hsv : 0 ≤ t.getD r.toNat rqZ0 9 ∧ t.getD r.toNat rqZ0 9 ≤ 1000) :
    Calls Tryz.prog 94 #[.pointer (some ⟨g, 0, none⟩), .agg #[.int .i64 r, .int .i64 k]] w fun e w' =>
      e = .returned (.int .i64 (if gB k (t.getD r.toNat rqZ0) ax ay now > gL k (t.getD r.toNat rqZ0) then 9 else 0)) ∧
      Blk w' g (if gB k (t.getD r.toNat rqZ0) ax ay now > gL k (t.getD r.toNat rqZ0) then wkR x y cp st en p' t.length c' mb ax ay now bd else wkR x y cp st en p' t.length c' mb (gX k (t.getD r.toNat rqZ0)) (gY k (t.getD r.toNat rqZ0)) (gB k (t.getD r.toNat rqZ0) ax ay now + t.getD r.toNat rqZ0 9) bd) 163 ∧ Mod (· = g) w w' := by
  obtain ⟨n, rfl⟩ := Int.eq_ofNat_of_zero_le hr.1
  have hn : n < t.length := by omega
  rw [Int.toNat_natCast, getD_at t hn] at hea hsv ⊢
  exact goes_calls g mb x y cp st en p' c' t ax ay now bd n k w hB hT hn hag hnow hea hsv

theorem run_ix0 (f0 f1 f2 : Value) (w : World) : (Instr.index 165 (.agg #[f0, f1, f2]) (.int .i64 0)).run Tryz.prog w = .ok f0 w := by kernel_rfl
theorem run_ix1 (f0 f1 f2 : Value) (w : World) : (Instr.index 165 (.agg #[f0, f1, f2]) (.int .i64 1)).run Tryz.prog w = .ok f1 w := by kernel_rfl
theorem run_ix2 (f0 f1 f2 : Value) (w : World) : (Instr.index 165 (.agg #[f0, f1, f2]) (.int .i64 2)).run Tryz.prog w = .ok f2 w := by kernel_rfl
/-- what is known of a request that may be -/
theorem rqE_all {q : Rq} (h : rqE q = 0) : (0 ≤ q 4 ∧ q 4 ≤ q 5 ∧ q 5 ≤ 1048576) ∧ (0 ≤ q 6 ∧ q 6 ≤ q 7 ∧ q 7 ≤ 1048576) ∧ (1 ≤ q 8 ∧ q 8 ≤ 1000) ∧ (0 ≤ q 9 ∧ q 9 ≤ 1000) := by
  unfold rqE rqCode firstC at h
  cases h1 : (plB (q 0) (q 1) && plB (q 2) (q 3)) <;> rw [h1] at h
  · simp at h
  cases h2 : (wiB (q 4) (q 5) && wiB (q 6) (q 7)) <;> rw [h2] at h
  · simp at h
  cases h3 : (decide (1 ≤ q 8 ∧ q 8 ≤ 1000) && decide (0 ≤ q 9 ∧ q 9 ≤ 1000)) <;> rw [h3] at h
  · simp at h
  rw [Bool.and_eq_true] at h2 h3
  exact ⟨of_decide_eq_true h2.1, of_decide_eq_true h2.2, of_decide_eq_true h3.1, of_decide_eq_true h3.2⟩

set_option maxHeartbeats 4000000 in
set_option maxRecDepth 100000 in
theorem fcheck_calls (x y cp st en : Int) (p p' : Option Addr) (c c' : Nat) (l : List (Int × Int)) (t : List Rq) (w : World) (hL : Els w p 2 (l.map stV)) (hT : Els w p' 10 (t.map rqV)) :
    Calls Tryz.prog 58 #[.agg #[.int .i64 x, .int .i64 y, .int .i64 cp, .int .i64 st, .int .i64 en], .slice p l.length c, .slice p' t.length c'] w (FsPost w (fsB x y cp st en l t)) := by
  have hbl : l.length ≤ 140737488351232 := by simpa using hL.big
  have hbt : t.length ≤ 140737488351232 := by simpa using hT.big
  have hX : fsB x y cp st en l t = (decide (vehCode x y cp st en = 0) && (t.all fun q => rqE q == 0) && decide (l.length ≤ 16) && fsEnd x y en (fsRun cp t l (fun _ => none) x y st 0)) := rfl
  have hv := Lib.hid (fun w => vehicle_calls x y cp st en w)
  have hvz := Lib.hid (fun h => vehCode_zero (x := x) (y := y) (cp := cp) (st := st) (en := en) h)
  have hq := Lib.hid (fun w (q : Rq) => check_calls (q 0) (q 1) (q 2) (q 3) (q 4) (q 5) (q 6) (q 7) (q 8) (q 9) w)
  have hwr := Lib.hid (fun e p i w => wrong_calls e p i w)
  generalize fsB x y cp st en l t = X at hX ⊢
  generalize vehCode x y cp st en = ve at hX hv hvz
  replace hX := Lib.hid hX
  replace hL := Lib.hid hL
  replace hT := Lib.hid hT
  go_enter Tryz.func58, Tryz.ntmps58
  go_upto_region 1 with fail
  refine wp_world' (fun wx => Blk wx w.heap.size #[.int .i64 x, .int .i64 y, .int .i64 cp, .int .i64 st, .int .i64 en] 53 ∧ Below w.heap.size w wx)
    ⟨Blk.new w _ _, (Below.refl _ _).alloc (Nat.le_refl _) _⟩ ?_
  rintro w1 ⟨hV, hb⟩
  have hlv := Lib.hid (run_load_row' (P := Tryz.prog) w1 w.heap.size 53 #[.int .i64 x, .int .i64 y, .int .i64 cp, .int .i64 st, .int .i64 en] 53 _ hV Tryz.underlying53 rfl (by kernel_rfl))
  have HV := Lib.hid hV
  have Hb := Lib.hid hb
  clear hV hb
  go_step3
  go_wp2_with (first | (refine wpList_load_v rfl 53 _ rfl ⟨w.heap.size, 0, none⟩ rfl _ hlv.out ?_))
  refine (hv.out _).mono ?_
  rintro e w2 ⟨rfl, hb2⟩
  have hV2 := Lib.hid (HV.out.mod ((Mod.refl (fun _ => False) _).after hb2) (fun h => h))
  have hbb := Lib.hid (Hb.out.trans (hb2.mono Hb.out.size))
  clear hlv HV Hb hb2 hv
  by_cases v0 : ve = 0
  · subst v0
    obtain ⟨hc1, hc2, hs1, hs2, hs3⟩ := hvz.out rfl
    clear hvz
    go_wp2_with fail
    go_loopw [22] (fun i wr => ∃ k : Nat, k ≤ t.length ∧ i = .int .i64 k ∧ Hid (∀ j q, j < k → t[j]? = some q → rqE q = 0) ∧ Below w.heap.size w wr ∧ Blk wr w.heap.size #[.int .i64 x, .int .i64 y, .int .i64 cp, .int .i64 st, .int .i64 en] 53) (fun i _ => t.length - (intOf i).toNat)
    case atStart => exact ⟨0, Nat.zero_le _, rfl, Lib.hid (fun j q h => by omega), hbb.out, hV2.out⟩
    case round =>
      obtain ⟨k, hkl, rfl, hR, hbr, hVr⟩ := hrel
      by_cases hlt : k < t.length
      · have hltI : (k : Int) < (t.length : Int) := by omega
        have s1 : IntKind.i64.wrap ((k : Int) + 1) = (k : Int) + 1 := IntWalk.i64_in _ (by omega)
        obtain ⟨a, rfl⟩ := (hT.out.below hbr).some_of (k := k) (by simpa using hlt)
        have hla := Lib.hid ((hT.out.below hbr).load (P := Tryz.prog) (a := a) rfl (k := k) (by simpa using hlt) (ty := 72) Tryz.underlying72 rfl (by kernel_rfl))
        rw [List.getElem_map] at hla
        have htk : t[k]? = some t[k] := List.getElem?_eq_getElem hlt
        generalize t[k] = q at hla htk
        have hqq : Hid (rqCode (q 0) (q 1) (q 2) (q 3) (q 4) (q 5) (q 6) (q 7) (q 8) (q 9) = rqE q) := Lib.hid rfl
        have hcq := Lib.hid (fun w => hq.out w q)
        rw [hqq.out] at hcq
        have hbad : Hid (rqE q ≠ 0 → X = false) := Lib.hid (fun h => by
          have : (t.all fun q => rqE q == 0) = false := by
            rw [List.all_eq_false]
            exact ⟨q, List.mem_of_getElem? htk, by simpa using h⟩
          rw [hX.out, this]
          simp)
        have hok : Hid (rqE q = 0 → ∀ j q, j < k + 1 → t[j]? = some q → rqE q = 0) := Lib.hid (fun h j u hj hju => by
          by_cases e : j = k
          · subst e; rw [htk] at hju; cases hju; exact h
          · exact hR.out j u (by omega) hju)
        clear hR htk hqq hV2 hbb
        generalize rqE q = rc at hcq hbad hok
        have hq1 := Lib.hid (run_load_row' (P := Tryz.prog) _ wr.heap.size 72 (rqV q).toArray 72 _ (Blk.new wr (rqV q).toArray 72) Tryz.underlying72 rfl (by kernel_rfl))
        replace hVr := Lib.hid hVr
        replace hbr := Lib.hid hbr
        go_wp2_with (first | (refine wpList_load_v rfl 72 _ rfl (a.add (k * 10)) rfl _ hla.out ?_) | (refine wpList_store_new rfl 72 _ _ rfl rfl rfl _ (rqV q).toArray _ rfl rfl (rqV_one _) (by kernel_rfl) ?_) | (refine wpList_load_v rfl 72 _ rfl ⟨wr.heap.size, 0, none⟩ rfl _ hq1.out ?_))
        refine (hcq.out _).mono ?_
        rintro e w3 ⟨rfl, hb3⟩
        have hV3 := Lib.hid ((hVr.out.alloc (.cells (rqV q).toArray 72)).mod ((Mod.refl (fun _ => False) _).after hb3) (fun h => h))
        have hbA := hbr.out.alloc hbr.out.size (.cells (rqV q).toArray 72)
        replace hb3 := Lib.hid (hbA.trans (hb3.mono hbA.size))
        clear hla hcq hbr hVr hbA hq1
        by_cases r0 : rc = 0
        · have hok' := Lib.hid (hok.out r0)
          subst r0
          clear hbad hok
          go_wp2_with fail
          go_roundw
          case rel => exact ⟨k + 1, by omega, by simp, hok', hb3.out, hV3.out⟩
          case measure => simp [intOf]; omega
        · obtain rfl : X = false := hbad.out r0
          have d1 : (rc == 0) = false := beq_eq_false_iff_ne.2 r0
          have d2 : (rc != 0) = true := by rw [bne, d1]; rfl
          clear hbad hok hX hV3
          go_wp2_with fail
          refine (hwr.out _ _ _ _).mono ?_
          rintro e w4 ⟨⟨b, rfl⟩, hb4⟩
          go_wp2_with fail
          go_ret
          exact FsPost.no (hb3.out.trans (hb4.mono hb3.out.size))
      · obtain rfl : k = t.length := by omega
        have hqz : Hid (∀ q ∈ t, rqE q = 0) := Lib.hid (fun q hq => by
          obtain ⟨j, hj, rfl⟩ := List.getElem_of_mem hq
          exact hR.out j _ hj (List.getElem?_eq_getElem hj))
        have hX2 : X = (decide (l.length ≤ 16) && fsEnd x y en (fsRun cp t l (fun _ => none) x y st 0)) := by
          have : (t.all fun q => rqE q == 0) = true := by
            rw [List.all_eq_true]
            intro q hq
            simpa using hqz.out q hq
          rw [hX.out, this]
          simp
        replace hX2 := Lib.hid hX2
        replace hbr := Lib.hid hbr
        replace hVr := Lib.hid hVr
        clear hX hR hq hbb hV2
        go_upto_region 9 with fail
        have hmm := @run_makeMap Tryz.prog
        have hlv9 := Lib.hid (run_load_row' (P := Tryz.prog) wr w.heap.size 53 #[.int .i64 x, .int .i64 y, .int .i64 cp, .int .i64 st, .int .i64 en] 53 _ hVr.out Tryz.underlying53 rfl (by kernel_rfl))
        have hVm := Lib.hid (hVr.out.alloc (.map #[] 0))
        have hlp9 := Lib.hid (show (loadVar 51 ⟨w.heap.size, 0, none⟩).run Tryz.prog (wr.alloc (.map #[] 0)) = .ok (.agg #[.int .i64 x, .int .i64 y]) (wr.alloc (.map #[] 0)) by
          rw [load_part (P := Tryz.prog) _ w.heap.size _ 53 hVm.out 0 2 (by show 0 + 2 ≤ 5; omega) 51 _ Tryz.underlying51 rfl (by kernel_rfl)]
          rfl)
        have k3 : (wr.alloc (.map #[] 0)).cell? ⟨w.heap.size, 3, none⟩ = some (.int .i64 st) := hVm.out.cell (i := 3) rfl
        go_upto_region 10 with (first | (refine wpList_load_v rfl 53 _ rfl ⟨w.heap.size, 0, none⟩ rfl _ hlv9.out ?_) | (refine wpList_load_v rfl 51 _ rfl ⟨w.heap.size, 0, none⟩ rfl _ hlp9.out ?_) | (refine wpList_buildn_v rfl 163 _ rfl #[(0, .agg #[.int .i64 x, .int .i64 y, .int .i64 cp, .int .i64 st, .int .i64 en]), (1, .slice p' t.length c'), (2, .map (some wr.heap.size)), (3, .agg #[.int .i64 x, .int .i64 y]), (4, .int .i64 st)] (by kernel_rfl) (.agg (wkR x y cp st en p' t.length c' wr.heap.size x y st 0)) (run_walk x y cp st en p' t.length c' wr.heap.size _) ?_))
        have hlt0 := hVr.out.lt
        have hW0 := Lib.hid (Blk.new' wr (.map #[] 0) (wkR x y cp st en p' t.length c' wr.heap.size x y st 0) 163)
        have hM0 : Hid (MapI ((wr.alloc (.map #[] 0)).alloc (.cells (wkR x y cp st en p' t.length c' wr.heap.size x y st 0) 163)) wr.heap.size 0 (fun _ => none)) :=
          Lib.hid ((MapV.new Tryz.prog 3 3 wr).mod ((Mod.refl (fun _ => False) _).alloc _) (fun h => h))
        have hV0 := Lib.hid (hVm.out.alloc (.cells (wkR x y cp st en p' t.length c' wr.heap.size x y st 0) 163))
        have hb0 := Lib.hid ((hbr.out.alloc hbr.out.size (.map #[] 0)).alloc (by have := hbr.out.size; simp; omega) (.cells (wkR x y cp st en p' t.length c' wr.heap.size x y st 0) 163))
        clear hmm hlv9 hVm hlp9 k3 hVr hbr
        generalize hmb : wr.heap.size = mb at *
        generalize ((wr.alloc (.map #[] 0)).alloc (.cells (wkR x y cp st en p' t.length c' mb x y st 0) 163)) = w4 at *
        clear hmb
        go_upto_block 2 with fail
        first | go_step3 | (refine wp_label ?_)
        go_upto_block 2 with fail
        go_cut [10, 11] (fun s10 s11 wx => ∃ ec av, s10 = .int .i64 ec ∧ s11 = .int .i64 av ∧ ((ec = 0 ∧ l.length ≤ 16 ∧ ∃ ax ay now bd, fsRun cp t l (fun _ => none) x y st 0 = some (ax, ay, now, bd) ∧ (0 ≤ now ∧ now ≤ 10000000) ∧ Blk wx (mb + 1) (wkR x y cp st en p' t.length c' mb ax ay now bd) 163) ∨ (ec ≠ 0 ∧ X = false)) ∧ Blk wx w.heap.size #[.int .i64 x, .int .i64 y, .int .i64 cp, .int .i64 st, .int .i64 en] 53 ∧ Below w.heap.size w wx)
        case first =>
          go_wp2_with fail
          go_loopw [10, 11, 44] (fun s10 s11 s44 wx => ∃ (k : Nat) (m : Int → Option Int) (ax ay now bd av : Int), k ≤ l.length ∧ k ≤ 16 ∧ s44 = .int .i64 k ∧ s10 = .int .i64 0 ∧ s11 = .int .i64 av ∧ Hid (fsRun cp t l (fun _ => none) x y st 0 = fsRun cp t (l.drop k) m ax ay now bd) ∧
            Hid (∀ j, 0 ≤ (m j).getD 0) ∧ (0 ≤ now ∧ now ≤ 10000000) ∧ (-1000 * (k : Int) ≤ bd ∧ bd ≤ 1000 * (k : Int)) ∧ MapI wx mb k m ∧ Blk wx (mb + 1) (wkR x y cp st en p' t.length c' mb ax ay now bd) 163 ∧ Blk wx w.heap.size #[.int .i64 x, .int .i64 y, .int .i64 cp, .int .i64 st, .int .i64 en] 53 ∧ Below w.heap.size w wx) (fun _ _ s44 _ => l.length - (intOf s44).toNat)
          case atStart => exact ⟨0, fun _ => none, x, y, st, 0, 0, Nat.zero_le _, Nat.zero_le _, rfl, rfl, rfl, Lib.hid rfl, Lib.hid (fun _ => Int.le_refl _), ⟨by omega, by omega⟩, ⟨by omega, by omega⟩, hM0.out, hW0.out, hV0.out, hb0.out⟩
          case round =>
            obtain ⟨k, m, ax, ay, now, bd, av, hkl, hk16, rfl, rfl, rfl, hR, hm0, hnw, hbd, hMr, hWr, hVr, hbr⟩ := hrel
            clear hM0 hW0 hV0 hb0
            replace hMr := Lib.hid hMr
            replace hWr := Lib.hid hWr
            replace hVr := Lib.hid hVr
            replace hbr := Lib.hid hbr
            by_cases hlt : k < l.length
            · have hltI : (k : Int) < (l.length : Int) := by omega
              have s1 : IntKind.i64.wrap ((k : Int) + 1) = (k : Int) + 1 := IntWalk.i64_in _ (by omega)
              obtain ⟨a, rfl⟩ := (hL.out.below hbr.out).some_of (k := k) (by simpa using hlt)
              have hla := Lib.hid ((hL.out.below hbr.out).load (P := Tryz.prog) (a := a) rfl (k := k) (by simpa using hlt) (ty := 75) Tryz.underlying75 rfl (by kernel_rfl))
              rw [List.getElem_map] at hla
              have hdr : l.drop k = l[k] :: l.drop (k + 1) := List.drop_eq_getElem_cons hlt
              rw [hdr] at hR
              generalize l[k] = s at hla hR
              clear hdr
              obtain ⟨r, kd⟩ := s
              go_upto_if 51 with (first | (refine wpList_load_v rfl 75 _ rfl (a.add (k * 2)) rfl _ hla.out ?_) | (refine wpList_store_new rfl 75 _ _ rfl rfl rfl _ (stV (r, kd)).toArray _ rfl rfl (by simp [stV, Value.oneCell']) (by kernel_rfl) ?_))
              have hS4 := Lib.hid (Blk.new wr (stV (r, kd)).toArray 75)
              have hM4 := Lib.hid (hMr.out.mod ((Mod.refl (fun _ => False) _).alloc (.cells (stV (r, kd)).toArray 75)) (fun h => h))
              have hW4 := Lib.hid (hWr.out.alloc (.cells (stV (r, kd)).toArray 75))
              have hV4 := Lib.hid (hVr.out.alloc (.cells (stV (r, kd)).toArray 75))
              have hb4 := Lib.hid (hbr.out.alloc hbr.out.size (.cells (stV (r, kd)).toArray 75))
              have hgl := hWr.out.lt
              have hml := hMr.out.lt
              clear hla hMr hWr hVr hbr
              generalize hgs : wr.heap.size = gs at *
              generalize wr.alloc (.cells (stV (r, kd)).toArray 75) = w5 at *
              clear hgs
              by_cases hk6 : k = 16
              · subst hk6
                obtain rfl : X = false := by rw [hX2.out]; simp; omega
                clear hL hX2 hR hM4 hW4 hS4
                go_wp2_with fail
                all_goals (go_meet)
                exact ⟨11, _, rfl, rfl, .inr ⟨by decide, by simp⟩, hV4.out, hb4.out⟩
              · have hk6I : ¬ (k : Int) = 16 := by omega
                have e16 : ((k : Int) == 16) = false := beq_eq_false_iff_ne.2 hk6I
                change Hid (Blk w5 gs #[.int .i64 r, .int .i64 kd] 75) at hS4
                obtain ⟨q, hqd⟩ : ∃ q, t.getD r.toNat rqZ0 = q := ⟨_, rfl⟩
                have hbad : Hid (¬ (stB t.length m (r, kd) = true ∧ ldE cp kd bd (q 8) = 0 ∧ ¬ gB kd q ax ay now > gL kd q) → X = false) := Lib.hid (fun h => by
                  have e : fsRun cp t l (fun _ => none) x y st 0 = none := by
                    rw [hR.out, fsRun]
                    simp only [hqd]
                    rw [if_neg h]
                  rw [hX2.out, e]
                  simp [fsEnd])
                have hgood : Hid (stB t.length m (r, kd) = true → ldE cp kd bd (q 8) = 0 → ¬ gB kd q ax ay now > gL kd q → fsRun cp t l (fun _ => none) x y st 0 = fsRun cp t (l.drop (k + 1)) (stM t.length m (r, kd)) (gX kd q) (gY kd q) (gB kd q ax ay now + q 9) (ldB kd bd (q 8))) := Lib.hid (fun h1 h2 h3 => by
                  rw [hR.out, fsRun]
                  simp only [hqd]
                  rw [if_pos ⟨h1, h2, h3⟩])
                have hqv : Hid (stB t.length m (r, kd) = true → rqE q = 0) := Lib.hid (fun h => by
                  have h1 := stB_true h
                  refine hqz.out q ?_
                  rw [← hqd]
                  have hn : r.toNat < t.length := by omega
                  rw [getD_at t hn]
                  exact List.getElem_mem hn)
                go_upto_block 4 with fail
                go_wp2_with fail
                go_loopw [10, 59] (fun s10 s59 wx => s10 = .int .i64 0 ∧ ((s59 = .int .i64 0 ∧ FsI x y cp st en p' c' mb (mb + 1) k t m ax ay now bd (r, kd) q 0 wx) ∨ (s59 = .int .i64 1 ∧ FsI x y cp st en p' c' mb (mb + 1) k t m ax ay now bd (r, kd) q 1 wx) ∨ (s59 = .int .i64 2 ∧ FsI x y cp st en p' c' mb (mb + 1) k t m ax ay now bd (r, kd) q 2 wx) ∨ (s59 = .int .i64 3 ∧ FsI x y cp st en p' c' mb (mb + 1) k t m ax ay now bd (r, kd) q 3 wx)) ∧
                  Blk wx gs #[.int .i64 r, .int .i64 kd] 75 ∧ Blk wx w.heap.size #[.int .i64 x, .int .i64 y, .int .i64 cp, .int .i64 st, .int .i64 en] 53 ∧ Below w.heap.size w wx) (fun _ s59 _ => 3 - (intOf s59).toNat)
                case atStart => exact ⟨rfl, .inl ⟨rfl, hM4.out, hW4.out⟩, hS4.out, hV4.out, hb4.out⟩
                case round =>
                  obtain ⟨rfl, hJ, hS5, hV5, hb5⟩ := hrel
                  clear hM4 hW4 hS4 hV4 hb4 hR
                  have hls := Lib.hid (run_load_row' (P := Tryz.prog) _ gs 75 _ 75 _ hS5 Tryz.underlying75 rfl (by kernel_rfl))
                  have hT5 := hT.out.below hb5
                  replace hS5 := Lib.hid hS5
                  replace hV5 := Lib.hid hV5
                  replace hb5 := Lib.hid hb5
                  rcases hJ with ⟨rfl, hI⟩ | ⟨rfl, hI⟩ | ⟨rfl, hI⟩ | ⟨rfl, hI⟩
                  · have hst := Lib.hid (stands_calls (mb + 1) mb k x y cp st en p' c' t.length m ax ay now bd r kd _ hI.2 hI.1 (by unfold maxLen; omega) hbt hm0.out)
                    have hWk := Lib.hid hI.2
                    have hix := @run_ix0
                    clear hI hT5
                    go_wp2_with (first | (refine wpList_load_v rfl 75 _ rfl ⟨gs, 0, none⟩ rfl _ hls.out ?_))
                    refine hst.out.mono ?_
                    rintro e w6 ⟨rfl, hM6, hmd6⟩
                    have HW6 := Lib.hid (hWk.out.mod hmd6 (fun h => by omega))
                    have HM6 := Lib.hid hM6
                    have HS6 := Lib.hid (hS5.out.mod hmd6 (fun h => by omega))
                    have HV6 := Lib.hid (hV5.out.mod hmd6 (fun h => by omega))
                    have Hb6 := Lib.hid (hb5.out.trans (hmd6.below hb5.out.size (fun j h => by omega)))
                    clear hst hM6 hmd6 hWk hS5 hV5 hb5 hls hix
                    by_cases hsb : stB t.length m (r, kd) = true
                    · have Hsb := Lib.hid hsb
                      simp only [if_pos hsb]
                      clear hsb
                      clear hbad
                      go_wp2_with fail
                      go_roundw
                      case rel => exact ⟨rfl, .inr (.inl ⟨rfl, Hsb.out, HM6.out, HW6.out⟩), HS6.out, HV6.out, Hb6.out⟩
                      case measure => simp [intOf]
                    · obtain rfl : X = false := hbad.out (fun h => hsb h.1)
                      simp only [if_neg hsb]
                      clear hbad hgood hqv hsb HW6 HM6 HS6 hX2
                      go_wp2_with fail
                      all_goals (go_meet)
                      exact ⟨8, _, rfl, rfl, .inr ⟨by decide, by simp⟩, HV6.out, Hb6.out⟩
                  · have hsb := stB_true hI.1
                    have hqa := rqE_all (hqv.out hI.1)
                    have hld := loads_calls' (mb + 1) mb x y cp st en p' c' t ax ay now bd r kd _ hI.2.2 hT5 ⟨hsb.1, hsb.2.1⟩ ⟨by omega, by omega⟩ (by rw [hqd]; omega)
                    rw [hqd] at hld
                    replace hld := Lib.hid hld
                    have HI := Lib.hid hI
                    have hix := @run_ix1
                    clear hI hT5 hsb hqa
                    go_wp2_with (first | (refine wpList_load_v rfl 75 _ rfl ⟨gs, 0, none⟩ rfl _ hls.out ?_))
                    refine hld.out.mono ?_
                    rintro e w6 ⟨rfl, hW6, hmd6⟩
                    have HM6 := Lib.hid (HI.out.2.1.mod hmd6 (fun h => by omega))
                    have HW6 := Lib.hid hW6
                    have HS6 := Lib.hid (hS5.out.mod hmd6 (fun h => by omega))
                    have HV6 := Lib.hid (hV5.out.mod hmd6 (fun h => by omega))
                    have Hb6 := Lib.hid (hb5.out.trans (hmd6.below hb5.out.size (fun j h => by omega)))
                    have Hsb := Lib.hid HI.out.1
                    clear hld hW6 hmd6 HI hS5 hV5 hb5 hls hix
                    by_cases hle : ldE cp kd bd (q 8) = 0
                    · have Hle := Lib.hid hle
                      rw [hle]
                      clear hle hbad
                      go_wp2_with fail
                      go_roundw
                      case rel => exact ⟨rfl, .inr (.inr (.inl ⟨rfl, Hsb.out, Hle.out, HM6.out, HW6.out⟩)), HS6.out, HV6.out, Hb6.out⟩
                      case measure => simp [intOf]
                    · obtain rfl : X = false := hbad.out (fun h => hle h.2.1)
                      generalize ldE cp kd bd (q 8) = ec at *
                      have d1 : (ec == 0) = false := beq_eq_false_iff_ne.2 hle
                      have d2 : (ec != 0) = true := by rw [bne, d1]; rfl
                      clear hbad hgood hqv HW6 HM6 HS6 hX2
                      go_wp2_with fail
                      all_goals (go_meet)
                      exact ⟨ec, _, rfl, rfl, .inr ⟨hle, by simp⟩, HV6.out, Hb6.out⟩
                  · have hsb := stB_true hI.1
                    have hqa := rqE_all (hqv.out hI.1)
                    have hge : 0 ≤ gE kd q ∧ gE kd q ≤ 10000000 := by unfold gE; split <;> omega
                    have hgo := goes_calls' (mb + 1) mb x y cp st en p' c' t ax ay now (ldB kd bd (q 8)) r kd _ hI.2.2.2 hT5 ⟨hsb.1, hsb.2.1⟩ (fun a e => by have h1 := rq_lt hT.out e (by omega); have h2 := hb5.out.size; omega) hnw (by rw [hqd]; exact hge) (by rw [hqd]; omega)
                    rw [hqd] at hgo
                    replace hgo := Lib.hid hgo
                    have HI := Lib.hid hI
                    have hix := @run_ix2
                    clear hI hT5 hsb hqa hge
                    go_wp2_with (first | (refine wpList_load_v rfl 75 _ rfl ⟨gs, 0, none⟩ rfl _ hls.out ?_))
                    refine hgo.out.mono ?_
                    rintro e w6 ⟨rfl, hW6, hmd6⟩
                    have HM6 := Lib.hid (HI.out.2.2.1.mod hmd6 (fun h => by omega))
                    have HS6 := Lib.hid (hS5.out.mod hmd6 (fun h => by omega))
                    have HV6 := Lib.hid (hV5.out.mod hmd6 (fun h => by omega))
                    have Hb6 := Lib.hid (hb5.out.trans (hmd6.below hb5.out.size (fun j h => by omega)))
                    have Hsb := Lib.hid HI.out.1
                    have Hle := Lib.hid HI.out.2.1
                    clear hgo hmd6 HI hS5 hV5 hb5 hls hix
                    by_cases hgt : gB kd q ax ay now > gL kd q
                    · obtain rfl : X = false := hbad.out (fun h => by have := h.2.2; omega)
                      simp only [if_pos hgt]
                      clear hbad hgood hqv HM6 HS6 hX2 hW6 hgt
                      go_wp2_with fail
                      all_goals (go_meet)
                      exact ⟨9, _, rfl, rfl, .inr ⟨by decide, by simp⟩, HV6.out, Hb6.out⟩
                    · rw [if_neg hgt] at hW6
                      have HW6 := Lib.hid hW6
                      have Hgt := Lib.hid hgt
                      simp only [if_neg hgt]
                      clear hgt hW6 hbad
                      go_wp2_with fail
                      go_roundw
                      case rel => exact ⟨rfl, .inr (.inr (.inr ⟨rfl, Hsb.out, Hle.out, Hgt.out, HM6.out, HW6.out⟩)), HS6.out, HV6.out, Hb6.out⟩
                      case measure => simp [intOf]
                  · have Hgd := Lib.hid (hgood.out hI.1 hI.2.1 (Int.not_lt.1 hI.2.2.1))
                    have hsb := stB_true hI.1
                    have hqa := rqE_all (hqv.out hI.1)
                    have HI := Lib.hid hI.2.2.2
                    have Hgt := Lib.hid hI.2.2.1
                    have Hm := Lib.hid (show ∀ j, 0 ≤ (stM t.length m (r, kd) j).getD 0 by
                      intro j
                      have := hm0.out j
                      have := hm0.out r
                      have e4 : (m r).getD 0 = kd := hsb.2.2.2
                      unfold stM
                      rw [if_pos hI.1]
                      show 0 ≤ (if j = r then some (kd + 1) else m j).getD 0
                      split
                      · show 0 ≤ kd + 1; omega
                      · assumption)
                    have Hnw : 0 ≤ gB kd q ax ay now + q 9 ∧ gB kd q ax ay now + q 9 ≤ 10000000 := by
                      have h1 : ¬ gB kd q ax ay now > gL kd q := Hgt.out
                      have h2 : gL kd q ≤ 1048576 := by unfold gL; split <;> omega
                      have h3 : 0 ≤ gE kd q := by unfold gE; split <;> omega
                      have h4 : gE kd q ≤ gB kd q ax ay now := by unfold gB mx; split <;> omega
                      omega
                    have Hbd : -1000 * ((k + 1 : Nat) : Int) ≤ ldB kd bd (q 8) ∧ ldB kd bd (q 8) ≤ 1000 * ((k + 1 : Nat) : Int) := by
                      unfold ldB
                      split <;> omega
                    clear hI hsb hqa hls hT5 hbad hgood hqv
                    go_wp2_with fail
                    refine ⟨⟨k + 1, stM t.length m (r, kd), gX kd q, gY kd q, gB kd q ax ay now + q 9, ldB kd bd (q 8), k, by omega, by omega, by simp, rfl, rfl, Hgd, Hm, Hnw, Hbd, HI.out.1, HI.out.2, hV5.out, hb5.out⟩, ?_⟩
                    simp [intOf]
                    omega
            · obtain rfl : k = l.length := by omega
              rw [List.drop_length] at hR
              have hRe := Lib.hid (show fsRun cp t l (fun _ => none) x y st 0 = some (ax, ay, now, bd) from hR.out)
              clear hL hX2 hR hMr
              go_wp2_with fail
              go_meet
              exact ⟨0, av, rfl, rfl, .inl ⟨rfl, hk16, ax, ay, now, bd, hRe.out, hnw, hWr.out⟩, hVr.out, hbr.out⟩
        case rest =>
          obtain ⟨ec, av, rfl, rfl, hcase, hVc, hbc⟩ := hcut
          clear hL hqz hM0 hW0 hV0 hb0
          have HV := Lib.hid hVc
          have Hb := Lib.hid hbc
          clear hVc hbc
          rcases hcase with ⟨rfl, hl16, ax, ay, now, bd, hfs, hnw, hWc⟩ | ⟨hec, rfl⟩
          · have hX3 : X = fsEnd x y en (some (ax, ay, now, bd)) := by rw [hX2.out, hfs]; simp [hl16]
            replace hX3 := Lib.hid hX3
            have c10 := hWc.cell (i := 10) (v := .int .i64 bd) rfl
            have HW := Lib.hid hWc
            clear hX2 hfs hWc
            by_cases hb0 : bd > 0
            · obtain rfl : X = false := by rw [hX3.out]; simp [fsEnd, hb0]
              clear hX3
              go_wp2_with fail
              refine (hwr.out _ _ _ _).mono ?_
              rintro e w6 ⟨⟨b, rfl⟩, hb6⟩
              go_wp2_with fail
              go_ret
              exact FsPost.no (Hb.out.trans (hb6.mono Hb.out.size))
            · have hds := Lib.hid (fun wx => dist_calls ax ay x y wx)
              have hdb := dsP_bd ax ay x y
              have hX4 : X = decide (¬ now + dsP ax ay x y > en) := by
                rw [hX3.out]
                simp [fsEnd, hb0]
              replace hX4 := Lib.hid hX4
              generalize dsP ax ay x y = ds at *
              clear hX3
              have hw1 : IntKind.i64.wrap (now + ds) = now + ds := IntWalk.i64_in _ (by omega)
              have hla : ∀ z : Later (fun _ => False) wc, (loadVar 51 ⟨mb + 1, 7, none⟩).run Tryz.prog z.val = .ok (.agg #[.int .i64 ax, .int .i64 ay]) z.val := fun z => by
                rw [load_part (P := Tryz.prog) z.val (mb + 1) (wkR x y cp st en p' t.length c' mb ax ay now bd) 163 (HW.out.mod z.mod (fun h => h)) 7 2 (by show 7 + 2 ≤ 11; omega) 51 _ Tryz.underlying51 rfl (by kernel_rfl)]
                rfl
              have hlb : ∀ z : Later (fun _ => False) wc, (loadVar 51 ⟨w.heap.size, 0, none⟩).run Tryz.prog z.val = .ok (.agg #[.int .i64 x, .int .i64 y]) z.val := fun z => by
                rw [load_part (P := Tryz.prog) z.val w.heap.size _ 53 (HV.out.mod z.mod (fun h => h)) 0 2 (by show 0 + 2 ≤ 5; omega) 51 _ Tryz.underlying51 rfl (by kernel_rfl)]
                rfl
              have K9 : ∀ z : Later (fun _ => False) wc, z.val.cell? ⟨mb + 1, 9, none⟩ = some (.int .i64 now) := fun z => z.cell (HW.out.cell (i := 9) rfl) (fun h => h)
              have K4 : ∀ z : Later (fun _ => False) wc, z.val.cell? ⟨w.heap.size, 4, none⟩ = some (.int .i64 en) := fun z => z.cell (HV.out.cell (i := 4) rfl) (fun h => h)
              replace hla := Lib.hid hla
              replace hlb := Lib.hid hlb
              go_upto_region 28 with fail
              clear c10
              refine wp_region_later (w0 := wc) (S := fun _ => False) (Mod.refl _ _) (by kernel_rfl) (by kernel_rfl) ?_
              iterate 7 (go_big_quiet_step (fail))
              refine wpQuiet_v rfl (.agg #[.int .i64 ax, .int .i64 ay]) (by rintro _ ⟨z, rfl⟩; exact run_load_v rfl rfl (hla.out z)) ?_
              simp only [Act.put, List.setIfInBounds_toArray, List.set_cons_succ, List.set_cons_zero]
              go_big_quiet_step (fail)
              refine wpQuiet_v rfl (.agg #[.int .i64 x, .int .i64 y]) (by rintro _ ⟨z, rfl⟩; exact run_load_v rfl rfl (hlb.out z)) ?_
              simp only [Act.put, List.setIfInBounds_toArray, List.set_cons_succ, List.set_cons_zero]
              go_big_quiet_step (((go_at_call 78; with_reducible exact Calls.later (hds.out _))))
              repeat (go_big_quiet_step (fail))
              refine wpQuiet_nil ?_
              rintro _ ⟨z, rfl⟩
              have Hb2 := Lib.hid (Hb.out.trans (z.mod.below Hb.out.size (fun _ h => h.elim)))
              clear hla hlb K9 K4 HW HV Hb hds
              generalize z.val = w5 at *
              clear z
              by_cases hl : now + ds > en
              · obtain rfl : X = false := by rw [hX4.out]; simp [hl]
                go_wp2_with fail
                refine (hwr.out _ _ _ _).mono ?_
                rintro e w6 ⟨⟨b, rfl⟩, hb6⟩
                go_wp2_with fail
                go_ret
                exact FsPost.no (Hb2.out.trans (hb6.mono Hb2.out.size))
              · obtain rfl : X = true := by rw [hX4.out]; simp [hl]
                go_wp2_with fail
                go_ret
                exact FsPost.yes Hb2.out
          · have d1 : (ec == 0) = false := beq_eq_false_iff_ne.2 hec
            have d2 : (ec != 0) = true := by rw [bne, d1]; rfl
            clear hX2
            go_wp2_with fail
            refine (hwr.out _ _ _ _).mono ?_
            rintro e w6 ⟨⟨b, rfl⟩, hb6⟩
            go_wp2_with fail
            go_ret
            exact FsPost.no (Hb.out.trans (hb6.mono Hb.out.size))
  · obtain rfl : X = false := by rw [hX.out]; simp [v0]
    have d1 : (ve == 0) = false := beq_eq_false_iff_ne.2 v0
    have d2 : (ve != 0) = true := by rw [bne, d1]; rfl
    clear hvz hX
    go_wp2_with fail
    refine (hwr.out _ _ _ _).mono ?_
    rintro e w3 ⟨⟨b, rfl⟩, hb3⟩
    go_wp2_with fail
    go_ret
    exact FsPost.no (hbb.out.trans (hb3.mono hbb.out.size))

end Go.Proofs.YtdmnoogppmckaaaGreat
