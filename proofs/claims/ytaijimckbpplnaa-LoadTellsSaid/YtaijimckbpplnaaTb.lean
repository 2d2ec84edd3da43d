/-
  'table' of the statements of layer 8; layer 6, the document's: Made.
-/
import Derived.Test.YtaijimckbpplnaaPk
import Derived.Test.YtaijimckbpplnaaRou
namespace Go.Proofs.Ytaijimckbpplnaa
open Go.RowKit

/-- a request of a Load alone -/
def rqLd (x : Int) : Rq := fun i => if i = 8 then x else 0
theorem run_rqLd (x : Int) (w : World) : (Instr.build 55 #[(4, .int .i64 x)]).run Try.prog w = .ok (.agg (rqV (rqLd x)).toArray) w := by kernel_rfl
def tblP (ns : List Int) : List Rq := (ns.take 12).map fun n => rqLd (1 + n % 1000)
theorem tblP_len (ns : List Int) : (tblP ns).length = min 12 ns.length := by unfold tblP; rw [List.length_map, List.length_take]
def u16V (n : Int) : List Value := [.int .u16 n]
theorem rqV_flat_succ (R : List Rq) {k : Nat} (hk : k < R.length) : ((R.take (k + 1)).map rqV).flatten = ((R.take k).map rqV).flatten ++ rqV R[k] := by
  rw [List.take_succ_eq_append_getElem hk, List.map_append, List.flatten_append]
  simp
set_option maxHeartbeats 1000000 in
set_option maxRecDepth 100000 in
theorem table_calls (p : Option Addr) (c : Nat) (ns : List Int) (w : World) (hE : Els w p 1 ((ns.take 12).map u16V)) (hbig : ns.length ≤ 9223372036854775807) (hr : ∀ n ∈ ns, 0 ≤ n ∧ n < 65536) :
    Calls Try.prog 18 #[.slice p ns.length c] w fun e w' => ∃ v, e = .returned v ∧ w'.ownsRow w.heap.size 55 10 v (tblP ns).length ((tblP ns).map rqV).flatten ∧ Below w.heap.size w w' := by
  have hTl := tblP_len ns
  have hTk : Hid (∀ k (h1 : k < ns.length) (h2 : k < (tblP ns).length), (tblP ns)[k] = rqLd (1 + ns[k] % 1000)) := Lib.hid (fun k h1 h2 => by unfold tblP; simp)
  generalize tblP ns = T at *
  have hT12 : T.length ≤ 12 := by omega
  have hTn : T.length ≤ ns.length := by omega
  replace hTl := Lib.hid hTl
  replace hE := Lib.hid hE
  replace hr := Lib.hid hr
  have hb0 := Lib.hid (Below.refl w.heap.size w)
  have hfin : Hid (((T.take T.length).map rqV).flatten = (T.map rqV).flatten) := Lib.hid (by rw [List.take_length])
  go_enter Try.func18, Try.ntmps18
  go_wp2_with fail
  go_loopw [3, 4] (fun s3 s4 wx => ∃ k : Nat, k ≤ T.length ∧ s4 = .int .i64 k ∧ wx.ownsRow w.heap.size 55 10 s3 k ((T.take k).map rqV).flatten ∧ Below w.heap.size w wx) (fun _ s4 _ => T.length - (intOf s4).toNat)
  case atStart => exact ⟨0, Nat.zero_le _, rfl, World.ownsRow_nil _ _ _ _, hb0.out⟩
  case round =>
    obtain ⟨k, hk, rfl, hO, hb⟩ := hrel
    by_cases hlt : k < T.length
    · have hkn : k < ns.length := by omega
      have hk12 : (k : Int) < 12 := by omega
      have hkI : (k : Int) < (ns.length : Int) := by omega
      have hk0 : (0 : Int) ≤ (k : Int) := by omega
      have s1 : IntKind.i64.wrap ((k : Int) + 1) = (k : Int) + 1 := IntWalk.i64_in _ (by omega)
      obtain ⟨a, ha⟩ := hE.out.some_of (k := k) (by rw [List.length_map, List.length_take]; omega)
      subst ha
      have hc : wr.cell? (a.add k) = some (.int .u16 ns[k]) := by
        have := (hE.out.below hb).cells a rfl k (u16V ns[k]) 0 (.int .u16 ns[k]) (by rw [List.getElem?_map, List.getElem?_take_of_lt (show k < 12 by omega), List.getElem?_eq_getElem hkn]; rfl) rfl
        rw [Nat.mul_one, Nat.add_zero] at this
        exact this
      have hn := hr.out ns[k] (List.getElem_mem hkn)
      have hq := hTk.out k hkn hlt
      have hst := Lib.hid (rqV_flat_succ T hlt)
      rw [hq] at hst
      generalize ns[k] = n at *
      have hm : 0 ≤ n % 1000 ∧ n % 1000 < 1000 := ⟨Int.emod_nonneg _ (by omega), Int.emod_lt_of_pos _ (by omega)⟩
      have s2 : IntKind.i64.wrap n = n := IntWalk.i64_in _ (by omega)
      have s3 : IntKind.i64.wrap (1 + n % 1000) = 1 + n % 1000 := IntWalk.i64_in _ (by omega)
      have s4 : IntKind.i64.wrap (n % 1000) = n % 1000 := IntWalk.i64_in _ (by omega)
      have hOA := Lib.hid (own_mod hO ((Mod.refl (fun _ => False) wr).alloc (.cells (rqV (rqLd (1 + n % 1000))).toArray 55)) (fun _ _ h => h))
      have hzA := Lib.hid (show w.heap.size ≤ (wr.alloc (.cells (rqV (rqLd (1 + n % 1000))).toArray 55)).heap.size by have := hb.size; simp; omega)
      have hbA := Lib.hid (hb.alloc hb.size (.cells (rqV (rqLd (1 + n % 1000))).toArray 55))
      have hb3 := Lib.hid (run_rqLd (1 + n % 1000))
      clear hO hb hq
      go_wp2_with (first | (refine wpList_build1_v rfl 55 4 _ rfl (.int .i64 (1 + n % 1000)) rfl _ (hb3.out _) ?_) |
        (refine wpList_bs1 rfl 33 1 0 _ rfl (.agg (rqV (rqLd (1 + n % 1000))).toArray) rfl _ _ (rsl_rq _ _) ?_) |
        (refine wpList_appG rq_el rfl _ _ rfl w.heap.size hzA.out _ k _ rfl hOA.out (by omega) ⟨wr.heap.size, 0, none⟩ 1 1 (rqV (rqLd (1 + n % 1000))) rfl rfl (by omega) (row_cells (Blk.new wr _ _)) (rq_one _) ?_; intro v7 w7 hO7 hg7))
      have hb7 := Lib.hid (grown_low hbA.out (Nat.le_refl _) (Nat.le_refl _) hOA.out hg7)
      rw [← hst.out] at hO7
      replace hO7 := Lib.hid hO7
      clear hOA hzA hbA hg7 hc s2 s3 s4 hb3
      go_wp2_with fail
      go_roundw
      case rel => exact ⟨k + 1, by omega, by simp, hO7.out, hb7.out⟩
      case measure => simp [intOf]; omega
    · obtain rfl : k = T.length := by omega
      rw [hfin.out] at hO
      replace hO := Lib.hid hO
      replace hb := Lib.hid hb
      clear hfin hTk
      by_cases hn : ns.length ≤ 12
      · have e1 : (ns.length : Int) ≤ (T.length : Int) := by have := hTl.out; omega
        have e2 : ¬ ((T.length : Int) < (ns.length : Int)) := by omega
        clear e1 hTl
        go_wp2_with fail
        go_ret
        exact ⟨_, rfl, hO.out, hb.out⟩
      · have e2 : ((T.length : Int) < (ns.length : Int)) := by have := hTl.out; omega
        have e3 : ¬ ((T.length : Int) < 12) := by have := hTl.out; omega
        clear hTl
        go_wp2_with fail
        go_ret
        exact ⟨_, rfl, hO.out, hb.out⟩

/-- a route, by bytes: so many requests are put in -/
def mdL (B : List Int) : Nat → List (Int × Int)
  | 0 => []
  | k + 1 =>
    withL (mdL B k) k (min (B.getD (2 * k) 0 % (((mdL B k).length : Int) + 1)).toNat (B.getD (2 * k + 1) 0 % (((mdL B k).length : Int) + 1)).toNat)
      (max (B.getD (2 * k) 0 % (((mdL B k).length : Int) + 1)).toNat (B.getD (2 * k + 1) 0 % (((mdL B k).length : Int) + 1)).toNat)
def mdN (n : Nat) : Nat := min (n / 2) 6
def mdP (B : List Int) : List (Int × Int) := mdL B (mdN B.length)
theorem mod_le (b : Int) (n : Nat) : (b % ((n : Int) + 1)).toNat ≤ n := by
  have := Int.emod_lt_of_pos b (show (0 : Int) < (n : Int) + 1 by omega)
  have := Int.emod_nonneg b (show (n : Int) + 1 ≠ 0 by omega)
  omega
theorem mdL_ok (B : List Int) : ∀ k, (mdL B k).length = 2 * k ∧ Rou (mdL B k) ∧ ∀ s ∈ mdL B k, 0 ≤ s.1 ∧ s.1 < (k : Int)
  | 0 => ⟨rfl, fun _ => .inl rfl, fun s hs => by simp [mdL] at hs⟩
  | k + 1 => by
    obtain ⟨h1, h2, h3⟩ := mdL_ok B k
    rw [mdL]
    have hx := mod_le (B.getD (2 * k) 0) (mdL B k).length
    have hy := mod_le (B.getD (2 * k + 1) 0) (mdL B k).length
    generalize (B.getD (2 * k) 0 % (((mdL B k).length : Int) + 1)).toNat = x at *
    generalize (B.getD (2 * k + 1) 0 % (((mdL B k).length : Int) + 1)).toNat = y at *
    generalize mdL B k = l at *
    have hmm : min x y ≤ max x y := by omega
    have hml : max x y ≤ l.length := by omega
    refine ⟨by rw [withL_len l _ hmm hml]; omega, ?_, fun s hs => ?_⟩
    · rw [withL_ins l _ hmm hml]
      exact rou_ins h2 (by omega) (fun s hs => by have := h3 s hs; omega) (by omega) (by omega)
    · rw [withL_ins l _ hmm hml] at hs
      rcases insS_mem.1 hs with rfl | hs
      · dsimp only; omega
      · rcases insS_mem.1 hs with rfl | hs
        · dsimp only; omega
        · have := h3 s hs; omega
theorem run_minI {ρ : Operand → Value} {o : Oper} {w : World} {x y : Operand} {m a b : Int} (hm : m = min a b) (ho : o.op = .call { callee := .builtin .min, args := #[x, y], argTypes := #[3, 3] }) (hx : ρ x = .int .i64 a) (hy : ρ y = .int .i64 b) :
    (execOp ρ o).run Try.prog w = .ok (.value (.int .i64 m)) w := by
  subst hm
  unfold execOp
  simp only [ho]
  go_simp
theorem run_u8c {w : World} {p : Addr} {n : Int} (hc : w.cell? p = some (.int .u8 n)) : (loadVar 5 p).run Try.prog w = .ok (.int .u8 n) w := by go_simp
def u8C (b : Int) : List Value := [.int .u8 b]
set_option maxHeartbeats 2000000 in
set_option maxRecDepth 100000 in
theorem made_calls (p : Option Addr) (c : Nat) (B : List Int) (w : World) (hE : Els w p 1 ((B.take 12).map u8C)) (hbig : B.length ≤ 9223372036854775807) (hr : ∀ n ∈ B, 0 ≤ n ∧ n < 256) :
    Calls Try.prog 19 #[.slice p B.length c] w fun e w' => (∃ q d, e = .returned (.slice q (mdP B).length d) ∧ ((mdP B).length ≤ d ∧ d ≤ 9223372036854775807) ∧ Els w' q 2 ((mdP B).map stV) ∧ (∀ a, q = some a → w.heap.size ≤ a.block)) ∧ Below w.heap.size w w' := by
  have hok := Lib.hid (mdL_ok B)
  have hK : Hid (mdN B.length = min (B.length / 2) 6) := Lib.hid rfl
  have hP : Hid (mdP B = mdL B (mdN B.length)) := Lib.hid rfl
  generalize mdP B = Z at *
  generalize mdN B.length = K at *
  have hK1 : K ≤ 6 := by have := hK.out; omega
  have hK2 : 2 * K ≤ B.length := by have := hK.out; omega
  replace hE := Lib.hid hE
  replace hr := Lib.hid hr
  have hb0 := Lib.hid (Below.refl w.heap.size w)
  go_enter Try.func19, Try.ntmps19
  go_wp2_with fail
  go_loopw [3, 4] (fun s3 s4 wx => ∃ (k m : Nat) (q : Option Addr) (d : Nat), k ≤ K ∧ Hid (m = 2 * k) ∧ s4 = .int .i64 m ∧ s3 = .slice q (mdL B k).length d ∧ ((mdL B k).length ≤ d ∧ d ≤ 9223372036854775807) ∧ Els wx q 2 ((mdL B k).map stV) ∧ Hid (∀ a, q = some a → w.heap.size ≤ a.block) ∧ Below w.heap.size w wx) (fun _ s4 _ => 2 * K - (intOf s4).toNat)
  case atStart => exact ⟨0, 0, none, 0, Nat.zero_le _, Lib.hid rfl, rfl, rfl, ⟨Nat.le_refl _, by omega⟩, els_nil _ _, Lib.hid (fun a ha => by cases ha), hb0.out⟩
  case round =>
    obtain ⟨k, m, q, d, hk, hm, rfl, rfl, hd, hEl, hnw, hb⟩ := hrel
    obtain ⟨hl1, hl2, hl3⟩ := hok.out k
    have hmk := hm.out
    by_cases hlt : k < K
    · have hmB : m + 1 < B.length := by omega
      have hmI : (m : Int) < (B.length : Int) := by omega
      have hmI1 : (m : Int) + 1 < (B.length : Int) := by omega
      have hm12 : (m : Int) < 12 := by omega
      have hm0 : (0 : Int) ≤ (m : Int) := by omega
      have hm1 : (0 : Int) ≤ (m : Int) + 1 := by omega
      have hq2 : (m : Int) / 2 = (k : Int) := by omega
      have t1 : ((m : Int) + 1).toNat = m + 1 := by omega
      have s1 : IntKind.i64.wrap ((m : Int) + 1) = (m : Int) + 1 := IntWalk.i64_in _ (by omega)
      have s2 : IntKind.i64.wrap ((m : Int) + 2) = (m : Int) + 2 := IntWalk.i64_in _ (by omega)
      obtain ⟨a, ha⟩ := hE.out.some_of (k := m) (by rw [List.length_map, List.length_take]; omega)
      subst ha
      have hcA : ∀ j (hj : j < B.length) (hj12 : j < 12), Hid (∀ n, (wr.drewN n).cell? (a.add j) = some (.int .u8 B[j])) := fun j hj hj12 => Lib.hid (fun n => by
        have := (hE.out.below (below_drewN hb n)).cells a rfl j (u8C B[j]) 0 (.int .u8 B[j]) (by rw [List.getElem?_map, List.getElem?_take_of_lt hj12, List.getElem?_eq_getElem hj]; rfl) rfl
        rw [Nat.mul_one, Nat.add_zero] at this
        exact this)
      have hc0 := hcA m (by omega) (by omega)
      have hc1 := hcA (m + 1) hmB (by omega)
      have hr0 := hr.out B[m] (List.getElem_mem _)
      have hr1 := hr.out B[m + 1] (List.getElem_mem _)
      have hnext : Hid (mdL B (k + 1) = withL (mdL B k) k (min (B[m] % (((mdL B k).length : Int) + 1)).toNat (B[m + 1] % (((mdL B k).length : Int) + 1)).toNat) (max (B[m] % (((mdL B k).length : Int) + 1)).toNat (B[m + 1] % (((mdL B k).length : Int) + 1)).toNat)) := Lib.hid (by
        rw [mdL]
        have e0 : B.getD (2 * k) 0 = B[m] := by rw [List.getD_eq_getElem?_getD, ← hmk, List.getElem?_eq_getElem (by omega)]; rfl
        have e1 : B.getD (2 * k + 1) 0 = B[m + 1] := by rw [List.getD_eq_getElem?_getD, ← hmk, List.getElem?_eq_getElem hmB]; rfl
        rw [e0, e1])
      clear hcA
      generalize B[m] = b0 at *
      generalize B[m + 1] = b1 at *
      obtain ⟨L', hL'⟩ : ∃ L', mdL B (k + 1) = L' := ⟨_, rfl⟩
      rw [hL'] at hnext
      replace hL' := Lib.hid hL'
      generalize mdL B k = L at *
      have hx := mod_le b0 L.length
      have hy := mod_le b1 L.length
      have hxx : Hid (((b0 % ((L.length : Int) + 1)).toNat : Int) = b0 % ((L.length : Int) + 1)) := Lib.hid (Int.toNat_of_nonneg (Int.emod_nonneg _ (by omega)))
      have hyy : Hid (((b1 % ((L.length : Int) + 1)).toNat : Int) = b1 % ((L.length : Int) + 1)) := Lib.hid (Int.toNat_of_nonneg (Int.emod_nonneg _ (by omega)))
      generalize (b0 % ((L.length : Int) + 1)).toNat = x at *
      generalize (b1 % ((L.length : Int) + 1)).toNat = y at *
      have hlo : Hid (((min x y : Nat) : Int) = min (x : Int) (y : Int)) := Lib.hid (by omega)
      have hhi : Hid (((max x y : Nat) : Int) = max (x : Int) (y : Int)) := Lib.hid (by omega)
      have hmm : min x y ≤ max x y := by omega
      have hml : max x y ≤ L.length := by omega
      generalize min x y = lo at *
      generalize max x y = hi at *
      have hL12 : L.length ≤ 10 := by omega
      have hwp := Lib.hid (withP_some (l := L) (req := (k : Int)) hmm hml (by omega) (fun s hs => by have := hl3 s hs; omega) (by omega))
      have hwl := Lib.hid (withL_len L (k : Int) hmm hml)
      have s3 : IntKind.i64.wrap ((L.length : Int) + 1) = (L.length : Int) + 1 := IntWalk.i64_in _ (by omega)
      have s4 : IntKind.i64.wrap b0 = b0 := IntWalk.i64_in _ (by omega)
      have s5 : IntKind.i64.wrap b1 = b1 := IntWalk.i64_in _ (by omega)
      have hmk' := Lib.hid hmk
      replace hl1 := Lib.hid hl1
      replace hEl := Lib.hid hEl
      replace hb := Lib.hid hb
      clear hl2 hl3 hm hmk
      go_upto_region 5 with fail
      refine wp_region_quiet_lit (by kernel_rfl) (by kernel_rfl) ?_
      iterate 3 (go_big_quiet_step (fail))
      refine wpQuiet_v rfl (.int .u8 b0) (by rintro _ ⟨j, rfl⟩; exact run_load_v rfl rfl (run_u8c (hc0.out _))) ?_
      simp only [Act.put, List.setIfInBounds_toArray, List.set_cons_succ, List.set_cons_zero]
      iterate 4 (go_big_quiet_step (fail))
      refine wpQuiet_v rfl (.int .i64 x) (by rintro _ ⟨j, rfl⟩; exact run_rem64 rfl rfl rfl (by omega) (by omega) hxx.out (by omega)) ?_
      simp only [Act.put, List.setIfInBounds_toArray, List.set_cons_succ, List.set_cons_zero]
      iterate 4 (go_big_quiet_step (fail))
      refine wpQuiet_v rfl (.int .u8 b1) (by rintro _ ⟨j, rfl⟩; exact run_load_v rfl rfl (run_u8c (hc1.out _))) ?_
      simp only [Act.put, List.setIfInBounds_toArray, List.set_cons_succ, List.set_cons_zero]
      iterate 4 (go_big_quiet_step (fail))
      refine wpQuiet_v rfl (.int .i64 y) (by rintro _ ⟨j, rfl⟩; exact run_rem64 rfl rfl rfl (by omega) (by omega) hyy.out (by omega)) ?_
      simp only [Act.put, List.setIfInBounds_toArray, List.set_cons_succ, List.set_cons_zero]
      iterate 2 (go_big_quiet_step (fail))
      refine wpQuiet_nil ?_
      rintro _ ⟨j, rfl⟩
      have hEd := Lib.hid (hEl.out.below (below_drewN (Below.refl _ wr) j))
      have hbd := Lib.hid (below_drewN hb.out j)
      have hszj := Lib.hid hb.out.size
      have hwi := Lib.hid (rwith_new q d L (k : Int) (lo : Int) (hi : Int) (wr.drewN j) hEd.out)
      rw [hwp.out] at hwi
      clear hc0 hc1 hxx hyy s3 s4 s5 hb hEl
      go_wp2_with (first | (refine wpList_v rfl (.int .i64 (lo : Int)) (run_minI hlo.out rfl rfl rfl) ?_) | (refine wpList_v rfl (.int .i64 (hi : Int)) (run_maxI hhi.out rfl rfl rfl) ?_))
      refine hwi.out.mono ?_
      rintro e w6 ⟨⟨q6, d6, rfl, hd6, hE6, hn6⟩, hb6⟩
      simp only [Option.getD_some, Option.isSome_some] at hd6 hE6 ⊢
      have hb7 := hbd.out.trans (hb6.mono hbd.out.size)
      replace hn6 := Lib.hid (fun a ha => Nat.le_trans hszj.out (hn6 a ha))
      clear hwi hEd hbd hb6 hwp hlo hhi
      rw [← hnext.out] at hd6 hE6 ⊢
      replace hE6 := Lib.hid hE6
      replace hb7 := Lib.hid hb7
      go_wp2_with fail
      go_roundw
      case rel => exact ⟨k + 1, m + 2, q6, d6, by omega, Lib.hid (by have := hmk'.out; omega), by simp, by rw [hL'.out], by rw [hL'.out]; exact hd6, by rw [hL'.out]; exact hE6.out, hn6, hb7.out⟩
      case measure => simp [intOf]; have := hmk'.out; omega
    · obtain rfl : k = K := by omega
      have hZ := hP.out
      rw [← hZ] at hd hEl ⊢
      replace hEl := Lib.hid hEl
      replace hb := Lib.hid hb
      have hm0 : (0 : Int) ≤ (m : Int) := by omega
      have s1 : IntKind.i64.wrap ((m : Int) + 1) = (m : Int) + 1 := IntWalk.i64_in _ (by omega)
      have hKo := hK.out
      by_cases h1 : m + 1 < B.length
      · have e1 : ((m : Int) + 1 < (B.length : Int)) := by omega
        have e2 : ¬ ((m : Int) < 12) := by omega
        clear hK hP hZ hKo hok hl1 hl2 hl3 hmk hm
        go_wp2_with fail
        go_ret
        exact ⟨⟨q, d, rfl, hd, hEl.out, hnw.out⟩, hb.out⟩
      · have e1 : ¬ ((m : Int) + 1 < (B.length : Int)) := by omega
        clear hK hP hZ hKo hok hl1 hl2 hl3 hmk hm
        go_wp2_with fail
        go_ret
        exact ⟨⟨q, d, rfl, hd, hEl.out, hnw.out⟩, hb.out⟩
end Go.Proofs.Ytaijimckbpplnaa
