/-
  Layer 8, the program's: board, as an iterator.
-/
import Derived.Test.YtcdpiemkbefcoaaTmI
import Derived.Test.YtcdpiemkbefcoaaTmW
namespace Go.Proofs.Ytcdpiemkbefcoaa
open Go.RowKit
attribute [local go_sem] Oper.semAt_some

/-- by how much a stop changes what is on board -/
def sgL (t : List Rq) (s : Int × Int) : Int := (if s.2 = 0 then 1 else -1) * t.getD s.1.toNat rqZ0 8
def onK (l : List (Int × Int)) (t : List Rq) (k : Nat) : Int := ((l.take k).map (sgL t)).sum
theorem onK_succ (l : List (Int × Int)) (t : List Rq) {k : Nat} (hk : k < l.length) : onK l t (k + 1) = onK l t k + sgL t l[k] := by
  unfold onK
  rw [List.take_succ_eq_append_getElem hk, List.map_append, List.sum_append]
  simp
theorem onK_zero (l : List (Int × Int)) (t : List Rq) : onK l t 0 = 0 := by simp [onK]
/-- stops of known requests, with loads as they may be -/
def knownS (l : List (Int × Int)) (t : List Rq) : Prop := ∀ s ∈ l, (s.2 = 0 ∨ s.2 = 1) ∧ ∃ n : Nat, s.1 = n ∧ ∃ h : n < t.length, 1 ≤ t[n] 8 ∧ t[n] 8 ≤ 1000
theorem sgL_bd {l : List (Int × Int)} {t : List Rq} (h : knownS l t) {s : Int × Int} (hs : s ∈ l) : -1000 ≤ sgL t s ∧ sgL t s ≤ 1000 := by
  obtain ⟨h1, n, h2, hn, h3⟩ := h s hs
  unfold sgL
  rw [h2, Int.toNat_natCast, getD_at t hn]
  split <;> omega
theorem onK_bd {l : List (Int × Int)} {t : List Rq} (h : knownS l t) : ∀ k, k ≤ l.length → -1000 * (k : Int) ≤ onK l t k ∧ onK l t k ≤ 1000 * (k : Int)
  | 0, _ => by rw [onK_zero]; omega
  | k + 1, hk => by
    have h1 := onK_bd h k (by omega)
    have h2 := sgL_bd h (List.getElem_mem (show k < l.length by omega))
    rw [onK_succ l t (by omega)]
    push_cast
    omega

theorem range_split {α : Type} (f : Nat → α) {k n : Nat} (h : k < n) : ∃ rest, (List.range n).map f = (List.range k).map f ++ f k :: rest := by
  refine ⟨((List.range n).map f).drop (k + 1), ?_⟩
  have hk : k < ((List.range n).map f).length := by simpa using h
  conv => lhs; rw [← List.take_append_drop k ((List.range n).map f), List.drop_eq_getElem_cons hk]
  congr 1
  · rw [← List.map_take, List.take_range, Nat.min_eq_left (Nat.le_of_lt h)]
  · simp
theorem board_calls (p p' : Option Addr) (c c' n m : Nat) (w : World) : Calls Try.prog 62 #[.slice p n c, .slice p' m c'] w fun e w' =>
    e = .returned (.func (.func 89) #[] #[.pointer (some ⟨w.heap.size, 0, none⟩), .pointer (some ⟨w.heap.size + 1, 0, none⟩)]) ∧ (w.alloc (.cells #[.slice p n c] 29)).alloc (.cells #[.slice p' m c'] 30) = w' := by
  go_enter Try.func62, Try.ntmps62
  go_wp2
  go_ret
  exact ⟨rfl, rfl⟩

set_option maxHeartbeats 1000000 in
set_option maxRecDepth 100000 in
theorem board_iter (p p' : Option Addr) (c c' : Nat) (l : List (Int × Int)) (t : List Rq) (w W : World) (b1 b2 : Nat) (hL : Els w p 2 (l.map stV)) (hT : Els w p' 10 (t.map rqV)) (hb : Below w.heap.size w W)
    (h1 : W.cell? ⟨b1, 0, none⟩ = some (.slice p l.length c)) (h2 : W.cell? ⟨b2, 0, none⟩ = some (.slice p' t.length c')) (hk16 : l.length ≤ 16) (hkn : knownS l t) :
    Iter Try.prog 89 #[.pointer (some ⟨b1, 0, none⟩), .pointer (some ⟨b2, 0, none⟩)] (fun x : Int × Int => #[.int .i64 x.1, .int .i64 x.2]) (fun k => k = W.heap.size) (fun k => k < w.heap.size ∨ k = b1 ∨ k = b2) ((List.range l.length).map fun (k : Nat) => ((k : Int), onK l t (k + 1))) W := by
  intro yl J Jx n hJ hJx hY h0
  have hlt1 := World.block_lt_of_cell? _ _ h1
  have hlt2 := World.block_lt_of_cell? _ _ h2
  replace hL := Lib.hid hL
  replace hT := Lib.hid hT
  replace hY := Lib.hid hY
  have h0' := Lib.hid (hJ _ _ _ h0 ((Mod.refl (fun k => k = W.heap.size) W).alloc (.cells #[.int .i64 1, .int .i64 (-1)] 41)))
  have c1 := cellA (.cells #[.int .i64 1, .int .i64 (-1)] 41) h1
  have c2 := cellA (.cells #[.int .i64 1, .int .i64 (-1)] 41) h2
  have hB4 := Lib.hid (Blk.new W #[.int .i64 1, .int .i64 (-1)] 41)
  have hb0 := Lib.hid (hb.alloc hb.size (.cells #[.int .i64 1, .int .i64 (-1)] 41))
  replace hJ := Lib.hid hJ
  replace hJx := Lib.hid hJx
  refine callsIn_of_wp Try.func89 rfl trivial ?_ rfl
  simp only [Try.ntmps89, List.size_toArray, List.length_cons, List.length_nil, Nat.reduceAdd, Nat.reduceSub, Array.replicate_succ, Array.replicate_zero, List.push_toArray, List.append_toArray, List.nil_append, List.cons_append]
  gi_wp2
  have hz4 : W.heap.size < (W.alloc (.cells #[.int .i64 1, .int .i64 (-1)] 41)).heap.size := by simp
  have hn1 : b1 ≠ W.heap.size := by omega
  have hn2 : b2 ≠ W.heap.size := by omega
  clear h1 h2 hlt1 hlt2
  generalize hb4 : W.heap.size = b4 at *
  generalize W.alloc (.cells #[.int .i64 1, .int .i64 (-1)] 41) = W1 at *
  have hwb : w.heap.size ≤ b4 := by rw [← hb4]; exact hb.size
  clear hb4 hb h0
  gi_loopw [5, 11] (fun o i wr => ∃ k : Nat, k ≤ l.length ∧ i = .int .i64 k ∧ o = .int .i64 (onK l t k) ∧ J ((List.range k).map fun (k : Nat) => ((k : Int), onK l t (k + 1))) wr ∧ Below w.heap.size w wr ∧ wr.cell? ⟨b1, 0, none⟩ = some (.slice p l.length c) ∧ wr.cell? ⟨b2, 0, none⟩ = some (.slice p' t.length c') ∧ Blk wr b4 #[.int .i64 1, .int .i64 (-1)] 41) (fun _ i _ => l.length - (intOf i).toNat)
  case atStart => exact ⟨0, Nat.zero_le _, rfl, by rw [onK_zero], h0'.out, hb0.out, c1, c2, hB4.out⟩
  case round =>
    obtain ⟨k, hk, rfl, rfl, hJk, hbr, e1, e2, hS4⟩ := hrel
    by_cases hlt : k < l.length
    · have hltI : (k : Int) < (l.length : Int) := by omega
      have s1 : IntKind.i64.wrap ((k : Int) + 1) = (k : Int) + 1 := IntWalk.i64_in _ (by omega)
      obtain ⟨a, rfl⟩ := (hL.out.below hbr).some_of (k := k) (by simpa using hlt)
      have hla := Lib.hid ((hL.out.below hbr).load (P := Try.prog) (a := a) rfl (k := k) (by simpa using hlt) (ty := 55) Try.underlying55 rfl (by kernel_rfl))
      rw [List.getElem_map] at hla
      obtain ⟨r, q, hs⟩ : ∃ r q, l[k] = (r, q) := ⟨_, _, rfl⟩
      obtain ⟨hkq, n', hn, hnl, hld⟩ := hkn _ (List.getElem_mem hlt)
      have hbd := onK_bd hkn k hk
      have hsc := onK_succ l t hlt
      have hsg : sgL t l[k] = (if q = 0 then 1 else -1) * t[n'] 8 := by
        unfold sgL
        rw [hn, Int.toNat_natCast, getD_at t hnl, hs]
      rw [hsg] at hsc
      rw [hs] at hla hkq hn
      simp only at hkq hn
      subst hn
      replace hla : Hid ((loadVar 55 (a.add (k * 2))).run Try.prog wr = .ok (.agg #[.int .i64 (n' : Int), .int .i64 q]) wr) := hla
      obtain ⟨a', rfl⟩ := (hT.out.below hbr).some_of (k := n') (by simpa using hnl)
      have hl8 := Lib.hid (fun wx (h : Below w.heap.size w wx) => (hT.out.below h).one (a := a') rfl (k := n') (by simpa using hnl) 8 (.int .i64 (t[n'] 8)) (by rw [List.getElem_map]; rfl))
      have hnI : (n' : Int) < t.length := by omega
      obtain ⟨rest, hsplit⟩ := range_split (fun (k : Nat) => ((k : Int), onK l t (k + 1))) hlt
      replace hsplit : (List.range l.length).map (fun (k : Nat) => ((k : Int), onK l t (k + 1))) = (List.range k).map (fun (k : Nat) => ((k : Int), onK l t (k + 1))) ++ ((k : Int), onK l t (k + 1)) :: rest := hsplit
      replace hsplit := Lib.hid hsplit
      have htk : Hid ((List.range (k + 1)).map (fun (k : Nat) => ((k : Int), onK l t (k + 1))) = (List.range k).map (fun (k : Nat) => ((k : Int), onK l t (k + 1))) ++ [((k : Int), onK l t (k + 1))]) := Lib.hid (by
        rw [List.range_succ, List.map_append]; rfl)
      generalize hon : onK l t (k + 1) = on' at hsc hsplit htk
      replace hon := Lib.hid hon
      generalize onK l t k = on at hsc hbd
      generalize t[n'] 8 = ld at hsc hld hl8
      replace hJk := Lib.hid hJk
      clear c1 c2 hs hsg h0' hb0 hB4
      have c2a := cellA (.cells #[.int .i64 (n' : Int), .int .i64 q] 55) e2
      gi_wp2_with (first | (refine wpListIn_load_v (fun _ => trivial) rfl rfl 55 _ rfl (a.add (k * 2)) rfl _ hla.out ?_))
      refine wpIn_world (fun wx => Blk wx wr.heap.size #[.int .i64 (n' : Int), .int .i64 q] 55 ∧ Blk wx b4 #[.int .i64 1, .int .i64 (-1)] 41 ∧ wx.cell? ⟨b1, 0, none⟩ = some (.slice (some a) l.length c) ∧ wx.cell? ⟨b2, 0, none⟩ = some (.slice (some a') t.length c') ∧ Below w.heap.size w wx ∧ Mod (fun k => k = b4) wr wx)
        ⟨Blk.new _ _ _, hS4.alloc _, cellA _ e1, cellA _ e2, hbr.alloc hbr.size _, (Mod.refl _ _).alloc _⟩ ?_
      have hzr : b4 < wr.heap.size := hS4.lt
      clear hla hbr hS4 e1 e2 c2a
      generalize wr.heap.size = g7 at *
      rintro w2 ⟨hQ, hS, e1, e2, hb2, hM2⟩
      have hl8' : w2.cell? ⟨(a'.add (n' * 10)).block, (a'.add (n' * 10)).off + 8, none⟩ = some (.int .i64 ld) := hl8.out w2 hb2
      have k70 : ∀ z : Later (fun _ => False) w2, z.val.cell? ⟨g7, 0, none⟩ = some (.int .i64 (n' : Int)) := fun z => z.cell (hQ.cell (i := 0) rfl) (fun h => h)
      have k71 : ∀ z : Later (fun _ => False) w2, z.val.cell? ⟨g7, 1, none⟩ = some (.int .i64 q) := fun z => z.cell (hQ.cell (i := 1) rfl) (fun h => h)
      have k40 : ∀ z : Later (fun _ => False) w2, z.val.cell? ⟨b4, 0, none⟩ = some (.int .i64 1) := fun z => z.cell (hS.cell (i := 0) rfl) (fun h => h)
      have k41 : ∀ z : Later (fun _ => False) w2, z.val.cell? ⟨b4, 1, none⟩ = some (.int .i64 (-1)) := fun z => z.cell (hS.cell (i := 1) rfl) (fun h => h)
      have k2 : ∀ z : Later (fun _ => False) w2, z.val.cell? ⟨b2, 0, none⟩ = some (.slice (some a') t.length c') := fun z => z.cell e2 (fun h => h)
      have k8 : ∀ z : Later (fun _ => False) w2, z.val.cell? ⟨(a'.add (n' * 10)).block, (a'.add (n' * 10)).off + 8, none⟩ = some (.int .i64 ld) := fun z => z.cell hl8' (fun h => h)
      replace hS := Lib.hid hS
      replace hM2 := Lib.hid hM2
      replace hb2 := Lib.hid hb2
      clear hQ hl8 hl8'
      have hex : ∃ sg : Int, on' = on + sg * ld ∧ (q = 0 ∧ sg = 1 ∨ q = 1 ∧ sg = -1) := by
        rcases hkq with h | h
        · exact ⟨1, by rw [hsc, if_pos h], .inl ⟨h, rfl⟩⟩
        · exact ⟨-1, by rw [hsc, if_neg (by omega)], .inr ⟨h, rfl⟩⟩
      obtain ⟨sg, rfl, hsq⟩ := hex
      clear hsc hkq
      refine wpIn_region_later (Mod.refl (fun _ => False) w2) (by kernel_rfl) (by kernel_rfl) ?_
      rcases hsq with ⟨rfl, rfl⟩ | ⟨rfl, rfl⟩
      · have s2 : IntKind.i64.wrap ld = ld := IntWalk.i64_in _ (by omega)
        have s3 : IntKind.i64.wrap (on + ld) = on + ld := IntWalk.i64_in _ (by omega)
        rw [Int.one_mul] at hsplit htk hon
        repeat (go_big_quiet_step (fail))
        refine wpQuiet_nil ?_
        rintro _ ⟨z, rfl⟩
        have hM3 : Mod (fun k => k = b4) wr z.val := hM2.out.trans (z.mod.mono (fun _ _ h => h.elim))
        have c1 := z.cell e1 (fun h => h)
        have c2 := z.cell e2 (fun h => h)
        have hS3 := hS.out.mod z.mod (fun h => h)
        have hb3 := hb2.out.trans (z.mod.below hb2.out.size (fun _ h => h.elim))
        have hJ2 := hJ.out _ _ _ hJk.out hM3
        obtain ⟨fn, tmps, assign, body, hy, hR⟩ := hY.out _ _ _ _ hsplit.out (fun k h => by subst h; exact hS3.lt) hJ2
        have HR := Lib.hid hR
        clear hR hM3 hJ2 hY hJ hJx k70 k71 k40 k41 k2 k8 e1 e2 hS hM2 hb2 hJk
        generalize z.val = w3 at *
        replace hb3 := Lib.hid hb3
        replace hS3 := Lib.hid hS3
        gi_wp2_with fail
        refine ⟨wideN _, HR.out.mono ?_⟩
        rintro e W3 ⟨hTT, (⟨rfl, hJ3⟩ | ⟨rfl, hJx3⟩)⟩
        · have c1' := Lib.hid (hTT.cell_of (p := ⟨b1, 0, none⟩) (fun h => h.2 (.inr (.inl rfl))) c1)
          have c2' := Lib.hid (hTT.cell_of (p := ⟨b2, 0, none⟩) (fun h => h.2 (.inr (.inr rfl))) c2)
          have hS4 := Lib.hid (hS3.out.mod hTT (fun h => h.1 rfl))
          have hb4' := Lib.hid (hb3.out.trans (hTT.below hb3.out.size (fun k h => Nat.le_of_not_lt fun hlt => h.2 (.inl hlt))))
          clear hTT c1 c2 hy hb3 hS3
          gi_wp2
          go_roundw
          case rel => exact ⟨k + 1, by omega, by simp, by rw [hon.out], by rw [htk.out]; exact hJ3, hb4'.out, c1'.out, c2'.out, hS4.out⟩
          case measure => simp [intOf]; omega
        · clear hTT c1 c2 hy hb3 hS3
          gi_wp2
          refine bodyPost_ret (results_none rfl _ _ _) rfl ?_
          exact ⟨⟨_, rfl⟩, .inr ⟨_, _, _, hsplit.out, hJx3⟩⟩
      · have s2 : IntKind.i64.wrap (-ld) = -ld := IntWalk.i64_in _ (by omega)
        have s3 : IntKind.i64.wrap (on + -ld) = on + -ld := IntWalk.i64_in _ (by omega)
        rw [Int.neg_mul, Int.one_mul] at hsplit htk hon
        repeat (go_big_quiet_step (fail))
        refine wpQuiet_nil ?_
        rintro _ ⟨z, rfl⟩
        have hM3 : Mod (fun k => k = b4) wr z.val := hM2.out.trans (z.mod.mono (fun _ _ h => h.elim))
        have c1 := z.cell e1 (fun h => h)
        have c2 := z.cell e2 (fun h => h)
        have hS3 := hS.out.mod z.mod (fun h => h)
        have hb3 := hb2.out.trans (z.mod.below hb2.out.size (fun _ h => h.elim))
        have hJ2 := hJ.out _ _ _ hJk.out hM3
        obtain ⟨fn, tmps, assign, body, hy, hR⟩ := hY.out _ _ _ _ hsplit.out (fun k h => by subst h; exact hS3.lt) hJ2
        have HR := Lib.hid hR
        clear hR hM3 hJ2 hY hJ hJx k70 k71 k40 k41 k2 k8 e1 e2 hS hM2 hb2 hJk
        generalize z.val = w3 at *
        replace hb3 := Lib.hid hb3
        replace hS3 := Lib.hid hS3
        gi_wp2_with fail
        refine ⟨wideN _, HR.out.mono ?_⟩
        rintro e W3 ⟨hTT, (⟨rfl, hJ3⟩ | ⟨rfl, hJx3⟩)⟩
        · have c1' := Lib.hid (hTT.cell_of (p := ⟨b1, 0, none⟩) (fun h => h.2 (.inr (.inl rfl))) c1)
          have c2' := Lib.hid (hTT.cell_of (p := ⟨b2, 0, none⟩) (fun h => h.2 (.inr (.inr rfl))) c2)
          have hS4 := Lib.hid (hS3.out.mod hTT (fun h => h.1 rfl))
          have hb4' := Lib.hid (hb3.out.trans (hTT.below hb3.out.size (fun k h => Nat.le_of_not_lt fun hlt => h.2 (.inl hlt))))
          clear hTT c1 c2 hy hb3 hS3
          gi_wp2
          go_roundw
          case rel => exact ⟨k + 1, by omega, by simp, by rw [hon.out], by rw [htk.out]; exact hJ3, hb4'.out, c1'.out, c2'.out, hS4.out⟩
          case measure => simp [intOf]; omega
        · clear hTT c1 c2 hy hb3 hS3
          gi_wp2
          refine bodyPost_ret (results_none rfl _ _ _) rfl ?_
          exact ⟨⟨_, rfl⟩, .inr ⟨_, _, _, hsplit.out, hJx3⟩⟩
    · obtain rfl : k = l.length := by omega
      gi_wp2
      go_end0
      exact ⟨⟨_, rfl⟩, .inl hJk⟩
end Go.Proofs.Ytcdpiemkbefcoaa
