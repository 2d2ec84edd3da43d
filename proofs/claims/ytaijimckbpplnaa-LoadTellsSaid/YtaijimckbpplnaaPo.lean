/-
  Layer 8, the program's: Open.
-/
import Derived.Test.YtaijimckbpplnaaOpP
import Derived.Test.YtaijimckbpplnaaMi
import Derived.Test.YtaijimckbpplnaaSo
import Derived.Maps.RangeRun
namespace Go.Proofs.Ytaijimckbpplnaa
open Go.RowKit

section
variable {P : Program} {k e : TypeId} {w : World} {b n : Nat} {m : Int → Option Int}
/-- the keys met so far, of those that the map has -/
def KeyC (m : Int → Option Int) (left : Lit → Bool) (ks : List Int) : Prop := ks.Nodup ∧ ∀ r, r ∈ ks ↔ ((m r).isSome = true ∧ left (.int .i64 r) = false)
theorem KeyC.step {left : Lit → Bool} {ks : List Int} (h : KeyC m left ks) {x : Int} (hl : left (.int .i64 x) = true) (hx : (m x).isSome = true) : KeyC m (fun z => left z && !z.sameKey (.int .i64 x)) (ks ++ [x]) := by
  have hnew : x ∉ ks := fun hm => by have := ((h.2 x).1 hm).2; rw [hl] at this; cases this
  refine ⟨List.nodup_append.2 ⟨h.1, by simp, fun a ha b hb => by simp at hb; subst hb; exact fun e => hnew (e ▸ ha)⟩, fun y => ?_⟩
  by_cases hy : y = x
  · subst hy; simp [hx, Lit.sameKey]
  · simp [h.2 y, hy, Lit.sameKey]
end
theorem exec_mapU {P : Program} {ρ : Operand → Value} {o : Oper} {w w' : World} {x y z : Operand} {t : TypeId} {b : Nat} {i v : Int} (ho : o.op = .mapUpdate t x y z) (hx : ρ x = .map (some b)) (hy : ρ y = .int .i64 i) (hz : ρ z = .int .i64 v)
    (hrun : (Instr.mapUpdate t (.map (some b)) (.int .i64 i) (.int .i64 v)).run P w = .ok () w') : (execOp ρ o).run P w = .ok .skip w' := by
  simp [execOp, ho, hx, hy, hz, hrun, Result.andThen]
theorem exec_del {ρ : Operand → Value} {o : Oper} {w w' : World} {x y : Operand} {t k : TypeId} {b : Nat} {i : Int} (ho : o.op = .call { callee := .builtin .delete, args := #[x, y], argTypes := #[t, k] }) (hx : ρ x = .map (some b)) (hy : ρ y = .int .i64 i)
    (h : (Builtin.delete_ #[t, k] o.type #[.map (some b), .int .i64 i]).run Try.prog w = .ok (.tuple #[]) w') : (execOp ρ o).run Try.prog w = .ok (.value (.tuple #[])) w' := by
  unfold execOp
  simp only [ho, resolve, invoke, builtin, Sem.run_bind, Sem.run_pure, Result.andThen_ok, List.map_toArray, List.map_cons, List.map_nil, hx, hy, h]
theorem run_slSo {ρ : Operand → Value} {o : Oper} {w : World} {x y : Operand} {p : Option Addr} {n c k : Nat} (ho : o.op = .slice 26 x none (some y) none) (hx : ρ x = .slice p n c) (hy : ρ y = .int .i64 k) (hk : k ≤ c) :
    (execOp ρ o).run Try.prog w = .ok (.value (.slice p k c)) w := by
  have h := run_slice_h (P := Try.prog) w 26 p n c (by kernel_rfl) .i64 (k : Int) (by omega) (by omega)
  have hs : (sizeOf (Try.prog.elem 26)).run Try.prog w = .ok 2 w := by kernel_rfl
  rw [← run_sliceAt_slice (P := Try.prog) w 26 (.slice p n c) _ _ _ (by kernel_rfl), hs] at h
  simp only [Result.andThen_ok, Int.toNat_natCast, sliced, Nat.sub_zero, Nat.zero_mul] at h
  unfold execOp
  have e : (if c = 0 then p else p.map fun a => a.add 0) = p := by
    split
    · rfl
    · cases p <;> simp [Addr.add]
  rw [e] at h
  simp only [ho, hx, hy, Option.map_some, Option.map_none, Sem.run_bind, h, Sem.run_pure, Result.andThen_ok]
theorem inV_flat (ks : List Int) : (ks.map inV).flatten = ks.map (Value.int .i64) := inV_map ks

set_option maxHeartbeats 4000000 in
set_option maxRecDepth 100000 in
theorem open_calls (p : Option Addr) (c : Nat) (l : List (Int × Int)) (k : Int) (K : Nat) (w : World) (hE : Els w p 2 (l.map stV)) (hl : l.length ≤ 1000) (hc : l.length ≤ c ∧ c ≤ 9223372036854775807) (hw : ∀ s ∈ l, wf64 s.1)
    (hK : (K : Int) = if 0 < (if (l.length : Int) < k then (l.length : Int) else k) then (if (l.length : Int) < k then (l.length : Int) else k) else 0) :
    Calls Try.prog 15 #[.slice p l.length c, .int .i64 k] w fun e w' => (∃ q d, e = .returned (.slice q (openD l K).length d) ∧ (openD l K).length ≤ d ∧ Els w' q 1 ((openD l K).map inV)) ∧ Below w.heap.size w w' := by
  have hKl : K ≤ l.length := by split at hK <;> (try split at hK) <;> omega
  have hKc : K ≤ c := by omega
  have hK1 : (if 0 < (if (l.length : Int) < k then (l.length : Int) else k) then (if (l.length : Int) < k then (l.length : Int) else k) else 0) = (K : Int) := hK.symm
  have hK2 : max 0 (min k (l.length : Int)) = (K : Int) := by
    rw [← hK1]
    split <;> (try split at *) <;> omega
  clear hK
  have hlen := Lib.hid (openD_len l K)
  have hsort := Lib.hid (fun (ks : List Int) (hnd : ks.Nodup) (hm : ∀ r, r ∈ ks ↔ (opMap l K r).isSome = true) => open_sort (l := l) (k := K) hnd hm)
  generalize openD l K = O at *
  replace hE := Lib.hid hE
  replace hw := Lib.hid hw
  have hmm := @run_makeMap Try.prog
  go_enter Try.func15, Try.ntmps15
  go_upto_region 2 with fail
  clear hmm
  refine wp_world' (fun wx => MapV Try.prog 3 3 wx w.heap.size 0 (opMap l 0) ∧ Below w.heap.size w wx) ⟨MapV.new _ _ _ _, new_below _ _⟩ ?_
  rintro w1 ⟨hM1, hb1⟩
  have HM1 := Lib.hid hM1
  have HB1 := Lib.hid hb1
  clear hM1 hb1
  go_upto_region 3 with (first | (refine wpList_v rfl (.slice p K c) (run_slSo rfl rfl rfl hKc) ?_))
  clear hK1 hK2
  go_loopw [18] (fun s18 wx => ∃ (i : Nat), i ≤ K ∧ s18 = .int .i64 i ∧ MapV Try.prog 3 3 wx w.heap.size i (opMap l i) ∧ Below w.heap.size w wx) (fun s18 _ => K - (intOf s18).toNat)
  case atStart => exact ⟨0, Nat.zero_le _, rfl, HM1.out, HB1.out⟩
  case round =>
    clear HM1 HB1
    obtain ⟨i, hi, rfl, hM, hb⟩ := hrel
    by_cases hlt : i < K
    · have hltI : (i : Int) < (K : Int) := by omega
      have hi0 : (0 : Int) ≤ (i : Int) := by omega
      have s1 : IntKind.i64.wrap ((i : Int) + 1) = (i : Int) + 1 := IntWalk.i64_in _ (by omega)
      have hil : i < l.length := by omega
      obtain ⟨a, ha⟩ := hE.out.some_of (k := i) (by simpa using hil)
      subst ha
      have hc1 : Hid ((loadVar 58 (a.add (i * 2))).run Try.prog wr = .ok (.agg #[.int .i64 l[i].1, .int .i64 l[i].2]) wr) := Lib.hid (by
        have := (hE.out.below hb).load (P := Try.prog) (a := a) rfl (k := i) (by simpa using hil) (ty := 58) Try.underlying58 rfl (by kernel_rfl)
        rw [List.getElem_map] at this
        exact this)
      have hwf := hw.out l[i] (List.getElem_mem hil)
      have hgd : l.getD i (0, 0) = l[i] := by rw [List.getD_eq_getElem?_getD, List.getElem?_eq_getElem hil]; rfl
      have hstep : Hid (opMap l (i + 1) = opStep (opMap l i) i l[i]) := Lib.hid (by rw [opMap, hgd])
      generalize l[i] = s at *
      obtain ⟨r, q⟩ := s
      dsimp only at hwf hc1
      clear hgd
      have P1 := Lib.hid (show Blk (wr.alloc (.cells #[.int .i64 r, .int .i64 q] 58)) wr.heap.size #[.int .i64 r, .int .i64 q] 58 ∧ MapV Try.prog 3 3 (wr.alloc (.cells #[.int .i64 r, .int .i64 q] 58)) w.heap.size i (opMap l i) ∧ Below w.heap.size w (wr.alloc (.cells #[.int .i64 r, .int .i64 q] 58)) from
        ⟨Blk.new _ _ _, hM.mod ((Mod.refl (fun _ => False) _).alloc _) (fun h => h), hb.alloc hb.size _⟩)
      clear hM hb
      go_upto_region 5 with (first | (refine wpList_load_v rfl 58 _ rfl (a.add (i * 2)) rfl _ hc1.out ?_) |
        (refine wpList_store_new rfl 58 _ _ rfl rfl rfl _ #[.int .i64 r, .int .i64 q] _ rfl rfl (by simp [Value.oneCell']) (by kernel_rfl) ?_))
      refine wp_world' (fun wx => Blk wx wr.heap.size #[.int .i64 r, .int .i64 q] 58 ∧ MapV Try.prog 3 3 wx w.heap.size i (opMap l i) ∧ Below w.heap.size w wx) P1.out ?_
      clear P1 hc1
      rintro w4 ⟨hB, hM, hb⟩
      have c0 := hB.cell (i := 0) rfl
      have c1 := hB.cell (i := 1) rfl
      have hMlt := hM.lt
      clear hB
      by_cases h0 : q = 0
      · subst h0
        obtain ⟨w5, hrun, hM5, hm5⟩ := hM.update Try.underlying3 Try.underlying3 Try.underlying70 (n := i) (by unfold maxLen; omega) hwf (v := (i : Int)) ⟨by omega, by omega⟩
        have hst : Hid (MapV Try.prog 3 3 w5 w.heap.size (i + 1) (opMap l (i + 1))) := Lib.hid (by
          rw [hstep.out]
          unfold opStep
          rw [if_pos rfl]
          exact hM5)
        have hb5 := Lib.hid (hb.trans (hm5.below hb.size (fun k hk => by have : k = w.heap.size := hk; omega)))
        replace hrun := Lib.hid hrun
        clear hM hM5 hm5 hstep hb
        go_wp2_with (first | (refine wpList_sw rfl rfl (exec_mapU rfl rfl rfl rfl hrun.out) ?_))
        go_roundw
        case rel => exact ⟨i + 1, by omega, by simp, hst.out, hb5.out⟩
        case measure => simp [intOf]; omega
      by_cases h1 : q = 1
      · subst h1
        obtain ⟨w5, hrun, hM5, hm5⟩ := hM.delete Try.underlying3 Try.underlying70 hwf 0
        have hst : Hid (MapV Try.prog 3 3 w5 w.heap.size (i + 1) (opMap l (i + 1))) := Lib.hid (by
          rw [hstep.out]
          unfold opStep
          rw [if_neg (by simp), if_pos rfl]
          exact hM5.mono (by omega))
        have hb5 := Lib.hid (hb.trans (hm5.below hb.size (fun k hk => by have : k = w.heap.size := hk; omega)))
        replace hrun := Lib.hid hrun
        clear hM hM5 hm5 hstep hb
        go_wp2_with (first | (refine wpList_vw rfl (.tuple #[]) (exec_del rfl rfl rfl hrun.out) ?_))
        go_roundw
        case rel => exact ⟨i + 1, by omega, by simp, hst.out, hb5.out⟩
        case measure => simp [intOf]; omega
      · have hst : Hid (MapV Try.prog 3 3 w4 w.heap.size (i + 1) (opMap l (i + 1))) := Lib.hid (by
          rw [hstep.out]
          unfold opStep
          rw [if_neg h0, if_neg h1]
          exact hM.mono (by omega))
        replace hb := Lib.hid hb
        have n0 : (q == 0) = false := by simpa using h0
        have n1 : (q == 1) = false := by simpa using h1
        clear hM hstep
        go_wp2_with fail
        go_roundw
        case rel => exact ⟨i + 1, by omega, by simp, hst.out, hb.out⟩
        case measure => simp [intOf]; omega
    · obtain rfl : i = K := by omega
      obtain ⟨D, hown, hview⟩ := hM
      obtain ⟨w5, hrun, hrg, hg5, hs5⟩ := hown.range (Go.Maps.int_keyed Try.underlying3) Try.underlying70
      replace hview := Lib.hid hview
      have hb5 : Below w.heap.size w w5 := hb.trans (((Mod.refl (fun _ => False) _).grown hg5 (fun k h => by cases h)).below hb.size (fun _ h => h.elim))
      have hcnt := Lib.hid (show ([] : List Int).length + Go.Maps.size D ≤ i by obtain ⟨es, clock, _, _, hs, rfl⟩ := hown; simpa [Go.Maps.size, DataW.length_sorted] using hs)
      have HR := Lib.hid hrun
      have hsz := Lib.hid hb.size
      clear hrun hg5 hown hb
      generalize hit : wr.heap.size = it at *
      go_wp2_with (first | (refine wpList_vw rfl (.pointer (some ⟨it, 0, none⟩)) (exec_range rfl rfl HR.out) ?_))
      simp only [Act.put, List.setIfInBounds_toArray, List.set_cons_succ, List.set_cons_zero]
      go_loopw [4] (fun v wx => ∃ (left : Lit → Bool) (cnt : Nat) (ks : List Int), wx.ranges Try.prog 3 (plainElem Try.prog 3) w.heap.size it i D left cnt ∧ Hid (KeyC (opMap l i) left ks ∧ ks.length + cnt ≤ i) ∧ wx.ownsRow (it + 1) 3 1 v ks.length (ks.map (Value.int .i64)) ∧ Below w.heap.size w wx ∧ it + 1 ≤ wx.heap.size) (fun _ wx => wx.rangeLeft w.heap.size it)
      case atStart => exact ⟨_, _, [], hrg, Lib.hid ⟨⟨List.nodup_nil, fun r => by rw [hview.out r |>.2]; cases (opMap l i r).isSome <;> simp⟩, hcnt.out⟩, World.ownsRow_nil _ _ _ _, hb5, by omega⟩
      case round =>
        clear hrg hb5 HR hcnt
        obtain ⟨left, cnt, ks, hrg, hKC, hO, hb, hisz⟩ := hrel
        obtain ⟨hKc1, hKc2⟩ := hKC.out
        rcases hrg.next (Go.Maps.int_keyed Try.underlying3) 0 with ⟨h0, hl0, hrunN⟩ | ⟨key, v, kl, y, w6, cnt', hkey, hlk, hv, hat, hrunN, hrg', hlt', hg6, hs6, hent⟩
        · have hks : ∀ r, r ∈ ks ↔ (opMap l i r).isSome = true := fun r => by rw [hKc1.2 r, hl0]; simp
          have hso := hsort.out ks hKc1.1 hks
          have hln : ks.length = O.length := by rw [← hso]; simp
          have hsc := Lib.hid (sort_calls hO (by omega))
          rw [hso] at hsc
          have HN := Lib.hid hrunN
          replace hln := Lib.hid hln
          replace hb := Lib.hid hb
          replace hO := Lib.hid hO
          have hlow := Lib.hid (fun (wx : World) (hg : wr.grownBy wx u4.ownBlock) => hb.out.trans (((Mod.refl (fun k => it + 1 ≤ k) wr).grown hg (fun k hk _ => (own_blk_lt hO.out hk).1)).below hb.out.size (fun k hk => by have : it + 1 ≤ k := hk; have := hsz.out; omega)))
          clear hrunN hrg hKC hKc1 hks hso
          go_wp2_with (first | (refine wpList_vw rfl _ (exec_next rfl rfl HN.out) ?_))
          refine hsc.out.mono ?_
          rintro e w7 ⟨rfl, hO7, hg7⟩
          have hb7 := hlow.out w7 hg7
          rw [hln.out] at hO7
          obtain ⟨q4, n4, d4, rfl⟩ := own_isS hO7
          obtain ⟨h1, h2, h3, _⟩ := own_els (R := O.map inV) (fun x hx => by obtain ⟨z, _, rfl⟩ := List.mem_map.1 hx; rfl) (by rw [List.length_map, inV_flat]; exact hO7) (by rw [List.length_map]; have := hlen.out; omega)
          rw [List.length_map] at h2
          subst h2
          clear hsc hlow HN hO hO7 hg7
          go_wp2_with fail
          go_ret
          exact ⟨⟨q4, d4, rfl, h3, h1⟩, hb7⟩
        · obtain ⟨x, rfl, rfl, hwx⟩ := Maps.keyOf_int_inv Try.underlying3 hkey
          obtain ⟨cv, rfl, _⟩ := plainElem_int_inv Try.underlying3 hv
          have hin : (opMap l i x).isSome = true := by rw [← (hview.out x).2]; exact Go.Maps.has_true_of_atKey hat
          have hKC' := Lib.hid (show KeyC (opMap l i) (fun z => left z && !z.sameKey (.int .i64 x)) (ks ++ [x]) ∧ (ks ++ [x]).length + cnt' ≤ i from ⟨hKc1.step hlk hin, by simp; omega⟩)
          have hsz' := hsz.out
          have hm6 := (Mod.refl (· = it) wr).grown hg6 (fun k hk _ => by cases hk; rfl)
          have hO6 := own_mod hO hm6 (fun g hg e => by have := (own_blk_lt hO hg).1; have : g = it := e; omega)
          have hb6 := hb.trans (hm6.below hb.size (fun k hk => by have : k = it := hk; omega))
          have hOA := Lib.hid (own_mod hO6 ((Mod.refl (fun _ => False) w6).alloc (.cells (inV x).toArray 3)) (fun _ _ h => h))
          have hzA := Lib.hid (show it + 1 ≤ (w6.alloc (.cells (inV x).toArray 3)).heap.size by simp; omega)
          have hbA := Lib.hid (hb6.alloc hb6.size (.cells (inV x).toArray 3))
          have hrA := Lib.hid (hrg'.alloc (.cells (inV x).toArray 3))
          have hl1 := Lib.hid hrg.left_eq
          have HN := Lib.hid hrunN
          have HE := Lib.hid hent
          replace hlt' := Lib.hid hlt'
          clear hrunN hent hrg hrg' hKC hKc1 hlk hat hv hkey hm6 hO hO6 hb hb6 hg6 hin
          go_wp2_with (first | (refine wpList_vw rfl _ (exec_next rfl rfl HN.out) ?_) | (refine wpList_v rfl _ (exec_entry rfl rfl HE.out) ?_) |
            (refine wpList_bs1 rfl 37 1 0 _ rfl (.int .i64 x) rfl _ _ (rsl_in x _) ?_) |
            (refine wpList_appG in_el rfl _ _ rfl (it + 1) hzA.out _ ks.length _ rfl hOA.out (by omega) ⟨w6.heap.size, 0, none⟩ 1 1 (inV x) rfl rfl (by omega) (row_cells (Blk.new w6 _ _)) (in_one _) ?_; intro v7 w7 hO7 hg7))
          have hb7 := grown_low hbA.out (by omega) (Nat.le_refl _) hOA.out hg7
          have hr7 := hrA.out.kept hg7 (fun e => by have := (own_blk_lt hOA.out e.symm).1; omega) (fun e => by have := (own_blk_lt hOA.out e.symm).1; omega)
          have hz7 := Nat.le_trans hzA.out hg7.size
          have hl2 := Lib.hid hr7.left_eq
          have hO7' : w7.ownsRow (it + 1) 3 1 v7 (ks ++ [x]).length ((ks ++ [x]).map (Value.int .i64)) := by rw [List.length_append, List.map_append]; exact hO7
          replace hb7 := Lib.hid hb7
          replace hr7 := Lib.hid hr7
          replace hO7' := Lib.hid hO7'
          clear hOA hzA hbA hrA HN HE hO7 hg7
          go_wp2_with fail
          go_roundw
          case rel => exact ⟨_, _, ks ++ [x], hr7.out, hKC', hO7'.out, hb7.out, hz7⟩
          case measure => rw [hl1.out, hl2.out]; exact hlt'.out
end Go.Proofs.Ytaijimckbpplnaa
