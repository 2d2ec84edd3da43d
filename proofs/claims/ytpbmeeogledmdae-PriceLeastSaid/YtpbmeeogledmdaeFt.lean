/-
  Layer 8, the program's: board, as an iterator.
  Layer 8, the program's: Fits.
-/
import Derived.Test.YtpbmeeogledmdaeTmI
import Derived.Test.YtpbmeeogledmdaeLd
namespace Go.Proofs.Ytpbmeeogledmdae
open Go.RowKit
attribute [local go_sem] Oper.semAt_some

/-- by how much a stop changes what is on board -/
def sgL (t : List Rq) (s : Int × Int) : Int := (if s.2 = 0 then 1 else -1) * t.getD s.1.toNat rqZ0 8
def onK (l : List (Int × Int)) (t : List Rq) (k : Nat) : Int := ((l.take k).map (sgL t)).sum
theorem onK_succ (l : List (Int × Int)) (t : List Rq) {k : Nat} (hk : k < l.length) : onK l t (k + 1) = onK l t k + sgL t l[k] := by
  unfold onK
  rw [List.take_succ_eq_append_getElem hk, List.map_append, List.sum_append]
  simp
theorem onK_zero (l : List (Int × Int)) (t : List Rq) : onK l t 0 = 0 := by simp [onK]
/-- stops of known requests, with loads as they may be -/
def knownS (l : List (Int × Int)) (t : List Rq) : Prop := ∀ s ∈ l, (s.2 = 0 ∨ s.2 = 1) ∧ ∃ n : Nat, s.1 = n ∧ ∃ h : n < t.length, 1 ≤ t[n] 8 ∧ t[n] 8 ≤ 1000
theorem sgL_bd {l : List (Int × Int)} {t : List Rq} (h : knownS l t) {s : Int × Int} (hs : s ∈ l) : -1000 ≤ sgL t s ∧ sgL t s ≤ 1000 := by
  obtain ⟨h1, n, h2, hn, h3⟩ := h s hs
  unfold sgL
  rw [h2, Int.toNat_natCast, getD_at t hn]
  split <;> omega
theorem onK_bd {l : List (Int × Int)} {t : List Rq} (h : knownS l t) : ∀ k, k ≤ l.length → -1000 * (k : Int) ≤ onK l t k ∧ onK l t k ≤ 1000 * (k : Int)
  | 0, _ => by rw [onK_zero]; omega
  | k + 1, hk => by
    have h1 := onK_bd h k (by omega)
    have h2 := sgL_bd h (List.getElem_mem (show k < l.length by omega))
    rw [onK_succ l t (by omega)]
    push_cast
    omega

theorem range_split {α : Type} (f : Nat → α) {k n : Nat} (h : k < n) : ∃ rest, (List.range n).map f = (List.range k).map f ++ f k :: rest := by
  refine ⟨((List.range n).map f).drop (k + 1), ?_⟩
  have hk : k < ((List.range n).map f).length := by simpa using h
  conv => lhs; rw [← List.take_append_drop k ((List.range n).map f), List.drop_eq_getElem_cons hk]
  congr 1
  · rw [← List.map_take, List.take_range, Nat.min_eq_left (Nat.le_of_lt h)]
  · simp
theorem board_calls (p p' : Option Addr) (c c' n m : Nat) (w : World) : Calls Try.prog 78 #[.slice p n c, .slice p' m c'] w fun e w' =>
    e = .returned (.func (.func 83) #[] #[.pointer (some ⟨w.heap.size, 0, none⟩), .pointer (some ⟨w.heap.size + 1, 0, none⟩)]) ∧ (w.alloc (.cells #[.slice p n c] 48)).alloc (.cells #[.slice p' m c'] 30) = w' := by
  go_enter Try.func78, Try.ntmps78
  go_wp2
  go_ret
  exact ⟨rfl, rfl⟩

set_option maxHeartbeats 1000000 in
set_option maxRecDepth 100000 in
theorem board_iter (p p' : Option Addr) (c c' : Nat) (l : List (Int × Int)) (t : List Rq) (w W : World) (b1 b2 : Nat) (hL : Els w p 2 (l.map stV)) (hT : Els w p' 10 (t.map rqV)) (hb : Below w.heap.size w W)
    (h1 : W.cell? ⟨b1, 0, none⟩ = some (.slice p l.length c)) (h2 : W.cell? ⟨b2, 0, none⟩ = some (.slice p' t.length c')) (hk16 : l.length ≤ 16) (hkn : knownS l t) :
    Iter Try.prog 83 #[.pointer (some ⟨b1, 0, none⟩), .pointer (some ⟨b2, 0, none⟩)] (fun x : Int × Int => #[.int .i64 x.1, .int .i64 x.2]) (fun k => k = W.heap.size) (fun k => k < w.heap.size ∨ k = b1 ∨ k = b2) ((List.range l.length).map fun (k : Nat) => ((k : Int), onK l t (k + 1))) W := by
  intro yl J Jx n hJ hJx hY h0
  have hlt1 := World.block_lt_of_cell? _ _ h1
  have hlt2 := World.block_lt_of_cell? _ _ h2
  replace hL := Lib.hid hL
  replace hT := Lib.hid hT
  replace hY := Lib.hid hY
  have h0' := Lib.hid (hJ _ _ _ h0 ((Mod.refl (fun k => k = W.heap.size) W).alloc (.cells #[.int .i64 1, .int .i64 (-1)] 180)))
  have c1 := cellA (.cells #[.int .i64 1, .int .i64 (-1)] 180) h1
  have c2 := cellA (.cells #[.int .i64 1, .int .i64 (-1)] 180) h2
  have hB4 := Lib.hid (Blk.new W #[.int .i64 1, .int .i64 (-1)] 180)
  have hb0 := Lib.hid (hb.alloc hb.size (.cells #[.int .i64 1, .int .i64 (-1)] 180))
  replace hJ := Lib.hid hJ
  replace hJx := Lib.hid hJx
  refine callsIn_of_wp Try.func83 rfl trivial ?_ rfl
  simp only [Try.ntmps83, List.size_toArray, List.length_cons, List.length_nil, Nat.reduceAdd, Nat.reduceSub, Array.replicate_succ, Array.replicate_zero, List.push_toArray, List.append_toArray, List.nil_append, List.cons_append]
  gi_wp2
  have hz4 : W.heap.size < (W.alloc (.cells #[.int .i64 1, .int .i64 (-1)] 180)).heap.size := by simp
  have hn1 : b1 ≠ W.heap.size := by omega
  have hn2 : b2 ≠ W.heap.size := by omega
  clear h1 h2 hlt1 hlt2
  generalize hb4 : W.heap.size = b4 at *
  generalize W.alloc (.cells #[.int .i64 1, .int .i64 (-1)] 180) = W1 at *
  have hwb : w.heap.size ≤ b4 := by rw [← hb4]; exact hb.size
  clear hb4 hb h0
  gi_loopw [5, 11] (fun o i wr => ∃ k : Nat, k ≤ l.length ∧ i = .int .i64 k ∧ o = .int .i64 (onK l t k) ∧ J ((List.range k).map fun (k : Nat) => ((k : Int), onK l t (k + 1))) wr ∧ Below w.heap.size w wr ∧ wr.cell? ⟨b1, 0, none⟩ = some (.slice p l.length c) ∧ wr.cell? ⟨b2, 0, none⟩ = some (.slice p' t.length c') ∧ Blk wr b4 #[.int .i64 1, .int .i64 (-1)] 180) (fun _ i _ => l.length - (intOf i).toNat)
  case atStart => exact ⟨0, Nat.zero_le _, rfl, by rw [onK_zero], h0'.out, hb0.out, c1, c2, hB4.out⟩
  case round =>
    obtain ⟨k, hk, rfl, rfl, hJk, hbr, e1, e2, hS4⟩ := hrel
    by_cases hlt : k < l.length
    · have hltI : (k : Int) < (l.length : Int) := by omega
      have s1 : IntKind.i64.wrap ((k : Int) + 1) = (k : Int) + 1 := IntWalk.i64_in _ (by omega)
      obtain ⟨a, rfl⟩ := (hL.out.below hbr).some_of (k := k) (by simpa using hlt)
      have hla := Lib.hid ((hL.out.below hbr).load (P := Try.prog) (a := a) rfl (k := k) (by simpa using hlt) (ty := 81) Try.underlying81 rfl (by kernel_rfl))
      rw [List.getElem_map] at hla
      obtain ⟨r, q, hs⟩ : ∃ r q, l[k] = (r, q) := ⟨_, _, rfl⟩
      obtain ⟨hkq, n', hn, hnl, hld⟩ := hkn _ (List.getElem_mem hlt)
      have hbd := onK_bd hkn k hk
      have hsc := onK_succ l t hlt
      have hsg : sgL t l[k] = (if q = 0 then 1 else -1) * t[n'] 8 := by
        unfold sgL
        rw [hn, Int.toNat_natCast, getD_at t hnl, hs]
      rw [hsg] at hsc
      rw [hs] at hla hkq hn
      simp only at hkq hn
      subst hn
      replace hla : Hid ((loadVar 81 (a.add (k * 2))).run Try.prog wr = .ok (.agg #[.int .i64 (n' : Int), .int .i64 q]) wr) := hla
      obtain ⟨a', rfl⟩ := (hT.out.below hbr).some_of (k := n') (by simpa using hnl)
      have hl8 := Lib.hid (fun wx (h : Below w.heap.size w wx) => (hT.out.below h).one (a := a') rfl (k := n') (by simpa using hnl) 8 (.int .i64 (t[n'] 8)) (by rw [List.getElem_map]; rfl))
      have hnI : (n' : Int) < t.length := by omega
      obtain ⟨rest, hsplit⟩ := range_split (fun (k : Nat) => ((k : Int), onK l t (k + 1))) hlt
      replace hsplit : (List.range l.length).map (fun (k : Nat) => ((k : Int), onK l t (k + 1))) = (List.range k).map (fun (k : Nat) => ((k : Int), onK l t (k + 1))) ++ ((k : Int), onK l t (k + 1)) :: rest := hsplit
      replace hsplit := Lib.hid hsplit
      have htk : Hid ((List.range (k + 1)).map (fun (k : Nat) => ((k : Int), onK l t (k + 1))) = (List.range k).map (fun (k : Nat) => ((k : Int), onK l t (k + 1))) ++ [((k : Int), onK l t (k + 1))]) := Lib.hid (by
        rw [List.range_succ, List.map_append]; rfl)
      generalize hon : onK l t (k + 1) = on' at hsc hsplit htk
      replace hon := Lib.hid hon
      generalize onK l t k = on at hsc hbd
      generalize t[n'] 8 = ld at hsc hld hl8
      replace hJk := Lib.hid hJk
      clear c1 c2 hs hsg h0' hb0 hB4
      have c2a := cellA (.cells #[.int .i64 (n' : Int), .int .i64 q] 81) e2
      gi_wp2_with (first | (refine wpListIn_load_v (fun _ => trivial) rfl rfl 81 _ rfl (a.add (k * 2)) rfl _ hla.out ?_))
      refine wpIn_world (fun wx => Blk wx wr.heap.size #[.int .i64 (n' : Int), .int .i64 q] 81 ∧ Blk wx b4 #[.int .i64 1, .int .i64 (-1)] 180 ∧ wx.cell? ⟨b1, 0, none⟩ = some (.slice (some a) l.length c) ∧ wx.cell? ⟨b2, 0, none⟩ = some (.slice (some a') t.length c') ∧ Below w.heap.size w wx ∧ Mod (fun k => k = b4) wr wx)
        ⟨Blk.new _ _ _, hS4.alloc _, cellA _ e1, cellA _ e2, hbr.alloc hbr.size _, (Mod.refl _ _).alloc _⟩ ?_
      have hzr : b4 < wr.heap.size := hS4.lt
      clear hla hbr hS4 e1 e2 c2a
      generalize wr.heap.size = g7 at *
      rintro w2 ⟨hQ, hS, e1, e2, hb2, hM2⟩
      have hl8' : w2.cell? ⟨(a'.add (n' * 10)).block, (a'.add (n' * 10)).off + 8, none⟩ = some (.int .i64 ld) := hl8.out w2 hb2
      have k70 : ∀ z : Later (fun _ => False) w2, z.val.cell? ⟨g7, 0, none⟩ = some (.int .i64 (n' : Int)) := fun z => z.cell (hQ.cell (i := 0) rfl) (fun h => h)
      have k71 : ∀ z : Later (fun _ => False) w2, z.val.cell? ⟨g7, 1, none⟩ = some (.int .i64 q) := fun z => z.cell (hQ.cell (i := 1) rfl) (fun h => h)
      have k40 : ∀ z : Later (fun _ => False) w2, z.val.cell? ⟨b4, 0, none⟩ = some (.int .i64 1) := fun z => z.cell (hS.cell (i := 0) rfl) (fun h => h)
      have k41 : ∀ z : Later (fun _ => False) w2, z.val.cell? ⟨b4, 1, none⟩ = some (.int .i64 (-1)) := fun z => z.cell (hS.cell (i := 1) rfl) (fun h => h)
      have k2 : ∀ z : Later (fun _ => False) w2, z.val.cell? ⟨b2, 0, none⟩ = some (.slice (some a') t.length c') := fun z => z.cell e2 (fun h => h)
      have k8 : ∀ z : Later (fun _ => False) w2, z.val.cell? ⟨(a'.add (n' * 10)).block, (a'.add (n' * 10)).off + 8, none⟩ = some (.int .i64 ld) := fun z => z.cell hl8' (fun h => h)
      replace hS := Lib.hid hS
      replace hM2 := Lib.hid hM2
      replace hb2 := Lib.hid hb2
      clear hQ hl8 hl8'
      have hex : ∃ sg : Int, on' = on + sg * ld ∧ (q = 0 ∧ sg = 1 ∨ q = 1 ∧ sg = -1) := by
        rcases hkq with h | h
        · exact ⟨1, by rw [hsc, if_pos h], .inl ⟨h, rfl⟩⟩
        · exact ⟨-1, by rw [hsc, if_neg (by omega)], .inr ⟨h, rfl⟩⟩
      obtain ⟨sg, rfl, hsq⟩ := hex
      clear hsc hkq
      refine wpIn_region_later (Mod.refl (fun _ => False) w2) (by kernel_rfl) (by kernel_rfl) ?_
      rcases hsq with ⟨rfl, rfl⟩ | ⟨rfl, rfl⟩
      · have s2 : IntKind.i64.wrap ld = ld := IntWalk.i64_in _ (by omega)
        have s3 : IntKind.i64.wrap (on + ld) = on + ld := IntWalk.i64_in _ (by omega)
        rw [Int.one_mul] at hsplit htk hon
        repeat (go_big_quiet_step (fail))
        refine wpQuiet_nil ?_
        rintro _ ⟨z, rfl⟩
        have hM3 : Mod (fun k => k = b4) wr z.val := hM2.out.trans (z.mod.mono (fun _ _ h => h.elim))
        have c1 := z.cell e1 (fun h => h)
        have c2 := z.cell e2 (fun h => h)
        have hS3 := hS.out.mod z.mod (fun h => h)
        have hb3 := hb2.out.trans (z.mod.below hb2.out.size (fun _ h => h.elim))
        have hJ2 := hJ.out _ _ _ hJk.out hM3
        obtain ⟨fn, tmps, assign, body, hy, hR⟩ := hY.out _ _ _ _ hsplit.out (fun k h => by subst h; exact hS3.lt) hJ2
        have HR := Lib.hid hR
        clear hR hM3 hJ2 hY hJ hJx k70 k71 k40 k41 k2 k8 e1 e2 hS hM2 hb2 hJk
        generalize z.val = w3 at *
        replace hb3 := Lib.hid hb3
        replace hS3 := Lib.hid hS3
        gi_wp2_with fail
        refine ⟨wideN _, HR.out.mono ?_⟩
        rintro e W3 ⟨hTT, (⟨rfl, hJ3⟩ | ⟨rfl, hJx3⟩)⟩
        · have c1' := Lib.hid (hTT.cell_of (p := ⟨b1, 0, none⟩) (fun h => h.2 (.inr (.inl rfl))) c1)
          have c2' := Lib.hid (hTT.cell_of (p := ⟨b2, 0, none⟩) (fun h => h.2 (.inr (.inr rfl))) c2)
          have hS4 := Lib.hid (hS3.out.mod hTT (fun h => h.1 rfl))
          have hb4' := Lib.hid (hb3.out.trans (hTT.below hb3.out.size (fun k h => Nat.le_of_not_lt fun hlt => h.2 (.inl hlt))))
          clear hTT c1 c2 hy hb3 hS3
          gi_wp2
          go_roundw
          case rel => exact ⟨k + 1, by omega, by simp, by rw [hon.out], by rw [htk.out]; exact hJ3, hb4'.out, c1'.out, c2'.out, hS4.out⟩
          case measure => simp [intOf]; omega
        · clear hTT c1 c2 hy hb3 hS3
          gi_wp2
          refine bodyPost_ret (results_none rfl _ _ _) rfl ?_
          exact ⟨⟨_, rfl⟩, .inr ⟨_, _, _, hsplit.out, hJx3⟩⟩
      · have s2 : IntKind.i64.wrap (-ld) = -ld := IntWalk.i64_in _ (by omega)
        have s3 : IntKind.i64.wrap (on + -ld) = on + -ld := IntWalk.i64_in _ (by omega)
        rw [Int.neg_mul, Int.one_mul] at hsplit htk hon
        repeat (go_big_quiet_step (fail))
        refine wpQuiet_nil ?_
        rintro _ ⟨z, rfl⟩
        have hM3 : Mod (fun k => k = b4) wr z.val := hM2.out.trans (z.mod.mono (fun _ _ h => h.elim))
        have c1 := z.cell e1 (fun h => h)
        have c2 := z.cell e2 (fun h => h)
        have hS3 := hS.out.mod z.mod (fun h => h)
        have hb3 := hb2.out.trans (z.mod.below hb2.out.size (fun _ h => h.elim))
        have hJ2 := hJ.out _ _ _ hJk.out hM3
        obtain ⟨fn, tmps, assign, body, hy, hR⟩ := hY.out _ _ _ _ hsplit.out (fun k h => by subst h; exact hS3.lt) hJ2
        have HR := Lib.hid hR
        clear hR hM3 hJ2 hY hJ hJx k70 k71 k40 k41 k2 k8 e1 e2 hS hM2 hb2 hJk
        generalize z.val = w3 at *
        replace hb3 := Lib.hid hb3
        replace hS3 := Lib.hid hS3
        gi_wp2_with fail
        refine ⟨wideN _, HR.out.mono ?_⟩
        rintro e W3 ⟨hTT, (⟨rfl, hJ3⟩ | ⟨rfl, hJx3⟩)⟩
        · have c1' := Lib.hid (hTT.cell_of (p := ⟨b1, 0, none⟩) (fun h => h.2 (.inr (.inl rfl))) c1)
          have c2' := Lib.hid (hTT.cell_of (p := ⟨b2, 0, none⟩) (fun h => h.2 (.inr (.inr rfl))) c2)
          have hS4 := Lib.hid (hS3.out.mod hTT (fun h => h.1 rfl))
          have hb4' := Lib.hid (hb3.out.trans (hTT.below hb3.out.size (fun k h => Nat.le_of_not_lt fun hlt => h.2 (.inl hlt))))
          clear hTT c1 c2 hy hb3 hS3
          gi_wp2
          go_roundw
          case rel => exact ⟨k + 1, by omega, by simp, by rw [hon.out], by rw [htk.out]; exact hJ3, hb4'.out, c1'.out, c2'.out, hS4.out⟩
          case measure => simp [intOf]; omega
        · clear hTT c1 c2 hy hb3 hS3
          gi_wp2
          refine bodyPost_ret (results_none rfl _ _ _) rfl ?_
          exact ⟨⟨_, rfl⟩, .inr ⟨_, _, _, hsplit.out, hJx3⟩⟩
    · obtain rfl : k = l.length := by omega
      gi_wp2
      go_end0
      exact ⟨⟨_, rfl⟩, .inl hJk⟩
end Go.Proofs.Ytpbmeeogledmdae
namespace Go.Proofs.Ytpbmeeogledmdae
open Go.RowKit
attribute [local go_sem] Oper.semAt_some

theorem res_cell2 {P : Program} {fn : Func} {p q : Tmp} {ty tz : TypeId} (h : fn.results = #[.cell p ty, .cell q tz]) {tmps : Array Value} {w : World} {g g' : Nat} {v v' : Value} (hp : tmps.getD p undef = .pointer (some ⟨g, 0, none⟩)) (hq : tmps.getD q undef = .pointer (some ⟨g', 0, none⟩))
    (h1 : (loadVar ty ⟨g, 0, none⟩).run P w = .ok v w) (h2 : (loadVar tz ⟨g', 0, none⟩).run P w = .ok v' w) :
    (results fn tmps).run P w = .ok (.tuple #[v, v']) w := by
  rw [Array.getD_eq_getD_getElem?] at hp hq
  simp [results, h, hp, hq, asAddr, Sem.run_bind, h1, h2]
theorem run_cellI8 {w : World} {g : Nat} {v : Int} (h : w.cell? ⟨g, 0, none⟩ = some (.int .i64 v)) : (loadVar 3 ⟨g, 0, none⟩).run Try.prog w = .ok (.int .i64 v) w := by go_simp
theorem set2 {W : World} {a b : Nat} {u1 u2 v1 v2 : Value} {t1 t2 : TypeId} (h1 : Blk W a #[u1] t1) (h2 : Blk W b #[u2] t2) (hab : a ≠ b) :
    Blk ((W.setCell ⟨a, 0, none⟩ v1).setCell ⟨b, 0, none⟩ v2) a #[v1] t1 ∧ Blk ((W.setCell ⟨a, 0, none⟩ v1).setCell ⟨b, 0, none⟩ v2) b #[v2] t2 :=
  ⟨(h1.set 0 v1).other (p := ⟨b, 0, none⟩) hab _, (h2.other (p := ⟨a, 0, none⟩) hab.symm _).set 0 v2⟩
theorem below2 {B : Nat} {a W : World} {p q : Addr} {u v : Value} (h : Below B a W) (h1 : B ≤ p.block) (h2 : B ≤ q.block) : Below B a ((W.setCell p u).setCell q v) := (h.setCell h1 _).setCell h2 _
theorem rqE_load {q : Rq} (h : rqE q = 0) : 1 ≤ q 8 ∧ q 8 ≤ 1000 := by
  unfold rqE rqCode firstC at h
  cases h1 : (plB (q 0) (q 1) && plB (q 2) (q 3)) <;> rw [h1] at h
  · simp at h
  cases h2 : (wiB (q 4) (q 5) && wiB (q 6) (q 7)) <;> rw [h2] at h
  · simp at h
  cases h3 : (decide (1 ≤ q 8 ∧ q 8 ≤ 1000) && decide (0 ≤ q 9 ∧ q 9 ≤ 1000)) <;> rw [h3] at h
  · simp at h
  rw [Bool.and_eq_true] at h3
  exact of_decide_eq_true h3.1
/-- what is known of a route that is told by a list -/
theorem toldP_zero {l : List (Int × Int)} {t : List Rq} (h : toldP l t = 0) : chkP l = 0 ∧ knownS l t := by
  unfold toldP at h
  by_cases h1 : chkP l ≠ 0
  · rw [if_pos h1] at h; exact absurd h h1
  rw [if_neg h1] at h
  have h1' : chkP l = 0 := by simpa using h1
  by_cases h2 : l.any (fun s => decide ((t.length : Int) ≤ s.1)) = true
  · rw [if_pos h2] at h; cases h
  rw [if_neg h2] at h
  by_cases h3 : l.any (fun s => rqE (t.getD s.1.toNat rqZ0) != 0) = true
  · rw [if_pos h3] at h; cases h
  refine ⟨h1', fun s hs => ?_⟩
  obtain ⟨q1, q2, _⟩ := ok_mem h1' hs
  have hlt : s.1.toNat < t.length := by
    refine Nat.lt_of_not_le fun hle => h2 (List.any_eq_true.2 ⟨s, hs, ?_⟩)
    exact decide_eq_true (by omega)
  refine ⟨q2, s.1.toNat, by omega, hlt, ?_⟩
  refine rqE_load ?_
  have : ¬ (rqE (t.getD s.1.toNat rqZ0) != 0) = true := fun e => h3 (List.any_eq_true.2 ⟨s, hs, e⟩)
  rw [getD_at t hlt] at this
  simpa using this
/-- the first stop behind which it has more on board than it may -/
def fullAt (cp : Int) (l : List (Int × Int)) (t : List Rq) : Option Nat := (List.range l.length).find? fun k => decide (cp < onK l t (k + 1))
def fitP (x y cp st en : Int) (l : List (Int × Int)) (t : List Rq) : Int × Int :=
  if vehCode x y cp st en ≠ 0 then (-1, vehCode x y cp st en) else if toldP l t ≠ 0 then (-1, toldP l t) else match fullAt cp l t with | some k => ((k : Int), 10) | none => (-1, 0)
theorem fullAt_some {cp : Int} {l : List (Int × Int)} {t : List Rq} {k : Nat} (hk : k < l.length) (h : cp < onK l t (k + 1)) (hn : ∀ j, j < k → ¬ cp < onK l t (j + 1)) : fullAt cp l t = some k := by
  unfold fullAt
  rw [List.find?_eq_some_iff_getElem]
  refine ⟨decide_eq_true h, k, by simpa using hk, by simp, fun j hj => ?_⟩
  have := hn j hj
  simpa using this
theorem fullAt_none {cp : Int} {l : List (Int × Int)} {t : List Rq} (hn : ∀ j, j < l.length → ¬ cp < onK l t (j + 1)) : fullAt cp l t = none := by
  unfold fullAt
  rw [List.find?_eq_none]
  intro j hj
  have := hn j (by simpa using hj)
  simpa using this
/-- where the walk over what is on board stands -/
def FtS (w : World) (V : Array Value) (cp : Int) (l : List (Int × Int)) (t : List Rq) (pre : List (Int × Int)) (W : World) : Prop :=
  Blk W w.heap.size V 47 ∧ Blk W (w.heap.size + 1) #[.int .i64 0] 3 ∧ Blk W (w.heap.size + 2) #[.int .i64 0] 41 ∧ Below w.heap.size w W ∧ ∀ j, j < pre.length → ¬ cp < onK l t (j + 1)
def FtX (w : World) (k e : Int) (W : World) : Prop :=
  Blk W (w.heap.size + 1) #[.int .i64 k] 3 ∧ Blk W (w.heap.size + 2) #[.int .i64 e] 41 ∧ Below w.heap.size w W
theorem ftS_mod {w : World} {V : Array Value} {cp : Int} {l : List (Int × Int)} {t : List Rq} {pre : List (Int × Int)} {A B : World} (h : FtS w V cp l t pre A) {S : Nat → Prop} (hm : Mod S A B) (hS : ∀ k, S k → w.heap.size + 3 ≤ k) : FtS w V cp l t pre B :=
  ⟨h.1.mod hm (fun s => by have := hS _ s; omega), h.2.1.mod hm (fun s => by have := hS _ s; omega), h.2.2.1.mod hm (fun s => by have := hS _ s; omega), h.2.2.2.1.trans (hm.below h.2.2.2.1.size (fun k s => by have := hS _ s; omega)), h.2.2.2.2⟩
theorem ftX_mod {w : World} {k e : Int} {A B : World} (h : FtX w k e A) {S : Nat → Prop} (hm : Mod S A B) (hS : ∀ k, S k → w.heap.size + 3 ≤ k) : FtX w k e B :=
  ⟨h.1.mod hm (fun s => by have := hS _ s; omega), h.2.1.mod hm (fun s => by have := hS _ s; omega), h.2.2.trans (hm.below h.2.2.size (fun k s => by have := hS _ s; omega))⟩

set_option maxHeartbeats 2000000 in
set_option maxRecDepth 100000 in
theorem fits_calls (x y cp st en : Int) (p p' : Option Addr) (c c' : Nat) (l : List (Int × Int)) (t : List Rq) (w : World) (hL : Els w p 2 (l.map stV)) (hT : Els w p' 10 (t.map rqV)) :
    Calls Try.prog 73 #[.agg #[.int .i64 x, .int .i64 y, .int .i64 cp, .int .i64 st, .int .i64 en], .slice p l.length c, .slice p' t.length c'] w fun e w' =>
      e = .returned (.tuple #[.int .i64 (fitP x y cp st en l t).1, .int .i64 (fitP x y cp st en l t).2]) ∧ Below w.heap.size w w' := by
  have hX : fitP x y cp st en l t = if vehCode x y cp st en ≠ 0 then (-1, vehCode x y cp st en) else if toldP l t ≠ 0 then (-1, toldP l t) else match fullAt cp l t with | some k => ((k : Int), 10) | none => (-1, 0) := rfl
  have hv := Lib.hid (fun wx => vehicle_calls x y cp st en wx)
  have ht := Lib.hid (fun wx (h : Below w.heap.size w wx) => told_calls p p' c c' l t wx (hL.below h) (hT.below h))
  have hz := Lib.hid (fun h : toldP l t = 0 => toldP_zero h)
  have hit := Lib.hid (fun W b1 b2 hb h1 h2 h16 hkn => board_iter p p' c c' l t w W b1 b2 hL hT hb h1 h2 h16 hkn)
  generalize fitP x y cp st en l t = X at hX ⊢
  generalize vehCode x y cp st en = vc at hX hv
  generalize toldP l t = tc at hX ht hz
  replace hX := Lib.hid hX
  replace hL := Lib.hid hL
  replace hT := Lib.hid hT
  obtain ⟨V, hV⟩ : ∃ V : Array Value, #[.int .i64 x, .int .i64 y, .int .i64 cp, .int .i64 st, .int .i64 en] = V := ⟨_, rfl⟩
  have g2 : V[2]? = some (.int .i64 cp) := by rw [← hV]; rfl
  have hsV : V.size = 5 := by rw [← hV]; rfl
  have hlv := Lib.hid (fun wx (h : Blk wx w.heap.size V 47) => run_load_row' (P := Try.prog) wx w.heap.size 47 V 47 _ h Try.underlying47 rfl (by rw [hsV]; kernel_rfl))
  rw [hV] at hv ⊢
  clear hV hsV
  refine calls_of_all fun n => ?_
  refine callsIn_of_wp_marks Try.func73 rfl trivial ?_ rfl
  simp only [Try.ntmps73, List.size_toArray, List.length_cons, List.length_nil, Nat.reduceAdd, Nat.reduceSub, Array.replicate_succ, Array.replicate_zero, List.push_toArray, List.append_toArray, List.nil_append, List.cons_append]
  refine wpIn_wide.2 ?_
  go_upto_region 1 with fail
  refine wp_world' (fun wx => Blk wx w.heap.size V 47 ∧ Blk wx (w.heap.size + 1) #[.int .i64 0] 3 ∧ Blk wx (w.heap.size + 2) #[.int .i64 0] 41 ∧ Below w.heap.size w wx)
    ⟨((Blk.new _ _ _).alloc _).alloc _, (Blk.new' _ _ _ _).alloc _, blk_new3 _ _ _ _ _, ((new_below _ _).alloc (by simp) _).alloc (by simp; omega) _⟩ ?_
  rintro w1 ⟨hB, hR1, hR2, hb⟩
  have hlv1 := Lib.hid (hlv.out _ hB)
  go_wp2_with (refine wpList_load_v rfl 47 _ rfl ⟨w.heap.size, 0, none⟩ rfl _ hlv1.out ?_)
  refine (hv.out _).mono ?_
  rintro e w2 ⟨rfl, hb2⟩
  have hM : Mod (fun _ => False) w1 w2 := (Mod.refl _ _).after hb2
  replace hB := hB.mod hM (fun h => h)
  replace hR1 := hR1.mod hM (fun h => h)
  replace hR2 := hR2.mod hM (fun h => h)
  replace hb := hb.trans (hb2.mono hb.size)
  clear hb2 hM hv hlv hlv1
  have hlt2 := hR2.lt
  by_cases v0 : vc = 0
  · subst v0
    have HB := Lib.hid hB
    have HR1 := Lib.hid hR1
    have HR2 := Lib.hid hR2
    replace hX : Hid (X = if tc ≠ 0 then (-1, tc) else match fullAt cp l t with | some k => ((k : Int), 10) | none => (-1, 0)) := Lib.hid (by rw [hX.out, if_neg (by simp)])
    clear hB hR1 hR2
    go_wp2_with fail
    refine (ht.out _ hb).mono ?_
    rintro e w3 ⟨rfl, hb3⟩
    have hM : Mod (fun _ => False) w2 w3 := (Mod.refl _ _).after hb3
    have hB := HB.out.mod hM (fun h => h)
    have hR1 := HR1.out.mod hM (fun h => h)
    have hR2 := HR2.out.mod hM (fun h => h)
    replace hb := hb.trans (hb3.mono hb.size)
    clear hb3 hM ht HB HR1 HR2 hlt2
    have hlt2 := hR2.lt
    by_cases t0 : tc = 0
    · subst t0
      obtain ⟨z1, z2⟩ := hz.out rfl
      have hl16 := chkP_len z1
      replace hX : Hid (X = match fullAt cp l t with | some k => ((k : Int), 10) | none => (-1, 0)) := Lib.hid (by rw [hX.out, if_neg (by simp)])
      replace z2 := Lib.hid z2
      clear hz z1
      have HB := Lib.hid hB
      have HR1 := Lib.hid hR1
      have HR2 := Lib.hid hR2
      clear hB hR1 hR2
      go_wp2_with fail
      refine (board_calls _ _ _ _ _ _ _).mono ?_
      rintro e w4 ⟨rfl, rfl⟩
      go_wp2_with fail
      generalize hbT : w3.heap.size = bT at hlt2 ⊢
      obtain ⟨W0, hW0⟩ : ∃ W0, (w3.alloc (.cells #[.slice p l.length c] 48)).alloc (.cells #[.slice p' t.length c'] 30) = W0 := ⟨_, rfl⟩
      have hz : W0.heap.size = bT + 2 := by rw [← hW0, ← hbT]; simp
      have hb0 : Below w.heap.size w W0 := by rw [← hW0]; exact (hb.alloc hb.size _).alloc (by have := hb.size; simp; omega) _
      have k1 : W0.cell? ⟨bT, 0, none⟩ = some (.slice p l.length c) := by rw [← hW0, ← hbT]; exact cellA _ (cellN w3 _ _).1
      have k2 : W0.cell? ⟨bT + 1, 0, none⟩ = some (.slice p' t.length c') := by
        rw [← hW0, ← hbT]
        have := (cellN (w3.alloc (.cells #[.slice p l.length c] 48)) (.slice p' t.length c') 30).1
        simp
      rw [hW0]
      have hS : Blk W0 w.heap.size V 47 ∧ Blk W0 (w.heap.size + 1) #[.int .i64 0] 3 ∧ Blk W0 (w.heap.size + 2) #[.int .i64 0] 41 := by
        rw [← hW0]
        exact ⟨(HB.out.alloc _).alloc _, (HR1.out.alloc _).alloc _, (HR2.out.alloc _).alloc _⟩
      clear hW0 HB HR1 HR2 hb hbT
      refine (wpIn_wide (n := n)).1 ?_
      refine wp_rangeIter (gf := 83) (lb := #[.pointer (some ⟨bT, 0, none⟩), .pointer (some ⟨bT + 1, 0, none⟩)]) rfl (enters_of Try.func83 (by kernel_rfl) rfl)
        (encs := fun x : Int × Int => #[.int .i64 x.1, .int .i64 x.2]) (fun _ => rfl) (S := fun k => k = W0.heap.size + 2) (Dt := fun k => k < w.heap.size ∨ k = bT ∨ k = bT + 1) (xs := (List.range l.length).map fun (k : Nat) => ((k : Int), onK l t (k + 1)))
        (fun o o' => (by
          have := hit.out ((W0.alloc o).alloc o') bT (bT + 1) ((hb0.alloc hb0.size _).alloc (by have := hb0.size; simp; omega) _) (cellA _ (cellA _ k1)) (cellA _ (cellA _ k2)) hl16 z2.out
          have e : ((W0.alloc o).alloc o').heap.size = W0.heap.size + 2 := by simp
          rw [e] at this
          exact this))
        (by omega) (by have := hb0.size; omega)
        (fun pre W => FtS w V cp l t pre W)
        (fun c pre W => c = .ret ∧ ∃ k : Nat, FtX w k 10 W ∧ fullAt cp l t = some k)
        ?hI ?hIx ?h0 ?hround ?hdone ?hstop
      case h0 => exact ⟨hS.1, hS.2.1, hS.2.2, hb0, fun j hj => absurd hj (Nat.not_lt_zero _)⟩
      case hI => exact fun pre A B h hm => ftS_mod h hm (fun k hk => by omega)
      case hIx => exact fun c pre A B h hm => ⟨h.1, let ⟨k, h1, h2⟩ := h.2; ⟨k, ftX_mod h1 hm (fun k hk => by omega), h2⟩⟩
      case hround =>
        rintro pre ⟨i, on⟩ rest W hx hSW hlt ⟨hV, hR1, hR2, hB, hn⟩
        have hk : pre.length < l.length := by have := congrArg List.length hx; simp at this; omega
        have hgb : ((pre.length : Int), onK l t (pre.length + 1)) = (i, on) := by
          have := congrArg (fun z => z[pre.length]?) hx
          simpa [hk] using this
        obtain ⟨rfl, hon⟩ := Prod.mk.inj hgb
        clear hSW hgb
        gi_wp2
        refine ⟨Mod.refl _ _, fun W2 hm => ?_⟩
        have hsz := hm.size
        replace hV := hV.mod hm (by omega)
        replace hR1 := hR1.mod hm (by omega)
        replace hR2 := hR2.mod hm (by omega)
        replace hB := hB.trans (hm.below hB.size (fun k s => by have := hb0.size; omega))
        have kv := hV.cell g2
        have q1 := hR1.cell (i := 0) rfl
        have q2 : W2.cell? ⟨w.heap.size + 1 + 1, 0, none⟩ = some (.int .i64 0) := hR2.cell (i := 0) rfl
        have f1 := hR1.froz 0
        have f2 : W2.frozen? ⟨w.heap.size + 1 + 1, 0, none⟩ = false := hR2.froz 0
        have HV := Lib.hid hV
        have HR1 := Lib.hid hR1
        have HR2 := Lib.hid hR2
        have HB := Lib.hid hB
        have HN := Lib.hid hn
        have hTk : ∀ k, w.heap.size ≤ k → k < w.heap.size + 3 → (¬ k = W0.heap.size + 2 ∧ ¬ (k < w.heap.size ∨ k = bT ∨ k = bT + 1) ∧ k ≠ W0.heap.size ∧ k ≠ W0.heap.size + 1) := fun k h1 h2 => ⟨by omega, by omega, by omega, by omega⟩
        clear hV hR1 hR2 hB hn hm
        by_cases hf : cp < on
        · have hfa : Hid (fullAt cp l t = some pre.length) := Lib.hid (fullAt_some hk (by rw [hon]; exact hf) (fun j hj => by have := HN.out j hj; omega))
          obtain ⟨e1, e2⟩ := set2 (v1 := .int .i64 pre.length) (v2 := .int .i64 10) HR1.out HR2.out (by omega)
          have E1 := Lib.hid e1
          have E2 := Lib.hid e2
          have HB2 := Lib.hid (below2 (p := ⟨w.heap.size + 1, 0, none⟩) (q := ⟨w.heap.size + 2, 0, none⟩) (u := .int .i64 pre.length) (v := .int .i64 10) HB.out (by simp) (by simp))
          have HM := Lib.hid (((Mod.refl (fun k => ¬ k = W0.heap.size + 2 ∧ ¬ (k < w.heap.size ∨ k = bT ∨ k = bT + 1) ∧ k ≠ W0.heap.size ∧ k ≠ W0.heap.size + 1) W2).setCell (p := ⟨w.heap.size + 1, 0, none⟩) (fun _ => hTk (w.heap.size + 1) (by omega) (by omega)) (.int .i64 pre.length)).setCell (p := ⟨w.heap.size + 2, 0, none⟩) (fun _ => hTk (w.heap.size + 2) (by omega) (by omega)) (.int .i64 10))
          clear e1 e2 HN hx
          gi_wp2
          exact ⟨HM.out.mono (fun k _ h => by omega), rfl, _, ⟨E1.out, E2.out, HB2.out⟩, hfa.out⟩
        · have hn' : Hid (∀ j, j < pre.length + 1 → ¬ cp < onK l t (j + 1)) := Lib.hid (fun j hj => by
            rcases Nat.lt_or_ge j pre.length with h | h
            · have := HN.out j h; omega
            · obtain rfl : j = pre.length := by omega
              rw [hon]; exact hf)
          clear HN hx
          gi_wp2
          exact ⟨Mod.refl _ _, HV.out, HR1.out, HR2.out, HB.out, fun j hj => by have := hn'.out j (by simpa using hj); omega⟩
      case hstop =>
        rintro c0 pre x0 rest W hx ⟨rfl, k, ⟨e1, e2, hB⟩, hfa⟩ hD hlt
        have hX3 : X = ((k : Int), 10) := by rw [hX.out, hfa]
        subst hX3
        clear hX
        rw [hz] at hD
        refine wpIn_wide.2 ?_
        go_wp2
        refine ⟨by simp, .inl ⟨_, _, rfl, run_takeDeferred hD, ?_⟩⟩
        have hk : ∀ (b : Nat) (v : Value) (ty : TypeId), b < bT + 2 → Blk W b #[v] ty → (W.putObj (bT + 2) (.deferred none)).cell? ⟨b, 0, none⟩ = some v := fun b v ty hb h => (putObj_cell (by show b ≠ _; omega)).trans (h.cell (i := 0) rfl)
        exact ⟨_, res_cell2 Try.results73 rfl rfl (run_cellI8 (hk _ _ _ (by omega) e1)) (run_cellE (hk _ _ _ (by omega) e2)), rfl, below_putObj hB (by omega) _⟩
      case hdone =>
        rintro W ⟨hV, hR1, hR2, hB, hn⟩ hD hlt
        have hX3 : X = (-1, 0) := by rw [hX.out, fullAt_none (by simpa using hn)]
        subst hX3
        have q1 := hR1.cell (i := 0) rfl
        have q2 : W.cell? ⟨w.heap.size + 1 + 1, 0, none⟩ = some (.int .i64 0) := hR2.cell (i := 0) rfl
        have f1 := hR1.froz 0
        have f2 : W.frozen? ⟨w.heap.size + 1 + 1, 0, none⟩ = false := hR2.froz 0
        obtain ⟨e1, e2⟩ := set2 (v1 := .int .i64 (-1)) (v2 := .int .i64 0) hR1 hR2 (by omega)
        have E1 := Lib.hid e1
        have E2 := Lib.hid e2
        have HB2 := Lib.hid (below2 (p := ⟨w.heap.size + 1, 0, none⟩) (q := ⟨w.heap.size + 2, 0, none⟩) (u := .int .i64 (-1)) (v := .int .i64 0) hB (by simp) (by simp))
        have HD := Lib.hid (setCell_heap (p := ⟨w.heap.size + 2, 0, none⟩) (v := .int .i64 0) (setCell_heap (p := ⟨w.heap.size + 1, 0, none⟩) (v := .int .i64 (-1)) hD (show W0.heap.size ≠ w.heap.size + 1 by omega)) (show W0.heap.size ≠ w.heap.size + 2 by omega))
        rw [hz] at HD
        clear hX hV hR1 hR2 hB hn hD e1 e2
        go_wp2
        refine ⟨by simp, .inl ⟨_, _, rfl, run_takeDeferred HD.out, ?_⟩⟩
        have hk : ∀ (X : World) (b : Nat) (v : Value) (ty : TypeId), b < W0.heap.size → Blk X b #[v] ty → (X.putObj W0.heap.size (.deferred none)).cell? ⟨b, 0, none⟩ = some v := fun X b v ty hb h => (putObj_cell (by show b ≠ _; omega)).trans (h.cell (i := 0) rfl)
        rw [hz] at hk
        exact ⟨_, res_cell2 Try.results73 rfl rfl (run_cellI8 (hk _ _ _ _ (by omega) E1.out)) (run_cellE (hk _ _ _ _ (by omega) E2.out)), rfl, below_putObj HB2.out (by omega) _⟩
    · have d1 : (tc == 0) = false := beq_eq_false_iff_ne.2 t0
      have d2 : (tc != 0) = true := by rw [bne, d1]; rfl
      have hX2 : X = (-1, tc) := by rw [hX.out, if_pos t0]
      subst hX2
      obtain ⟨e1, e2⟩ := set2 (v1 := .int .i64 (-1)) (v2 := .int .i64 tc) hR1 hR2 (by omega)
      have E1 := Lib.hid e1
      have E2 := Lib.hid e2
      have q1 := hR1.cell (i := 0) rfl
      have q2 : w3.cell? ⟨w.heap.size + 1 + 1, 0, none⟩ = some (.int .i64 0) := hR2.cell (i := 0) rfl
      have f1 := hR1.froz 0
      have f2 : w3.frozen? ⟨w.heap.size + 1 + 1, 0, none⟩ = false := hR2.froz 0
      have HB2 := Lib.hid (below2 (p := ⟨w.heap.size + 1, 0, none⟩) (q := ⟨w.heap.size + 2, 0, none⟩) (u := .int .i64 (-1)) (v := .int .i64 tc) hb (by simp) (by simp))
      clear hX hz hit e1 e2 hB hR1 hR2 hb
      go_wp2_with fail
      exact ⟨_, res_cell2 Try.results73 rfl rfl (run_cellI8 (E1.out.cell (i := 0) rfl)) (run_cellE (E2.out.cell (i := 0) rfl)), rfl, HB2.out⟩
  · have d1 : (vc == 0) = false := beq_eq_false_iff_ne.2 v0
    have d2 : (vc != 0) = true := by rw [bne, d1]; rfl
    have hX2 : X = (-1, vc) := by rw [hX.out, if_pos v0]
    subst hX2
    obtain ⟨e1, e2⟩ := set2 (v1 := .int .i64 (-1)) (v2 := .int .i64 vc) hR1 hR2 (by omega)
    have E1 := Lib.hid e1
    have E2 := Lib.hid e2
    have q1 := hR1.cell (i := 0) rfl
    have q2 : w2.cell? ⟨w.heap.size + 1 + 1, 0, none⟩ = some (.int .i64 0) := hR2.cell (i := 0) rfl
    have f1 := hR1.froz 0
    have f2 : w2.frozen? ⟨w.heap.size + 1 + 1, 0, none⟩ = false := hR2.froz 0
    have HB2 := Lib.hid (below2 (p := ⟨w.heap.size + 1, 0, none⟩) (q := ⟨w.heap.size + 2, 0, none⟩) (u := .int .i64 (-1)) (v := .int .i64 vc) hb (by simp) (by simp))
    clear hX hz hit ht e1 e2 hB hR1 hR2 hb
    go_wp2_with fail
    exact ⟨_, res_cell2 Try.results73 rfl rfl (run_cellI8 (E1.out.cell (i := 0) rfl)) (run_cellE (E2.out.cell (i := 0) rfl)), rfl, HB2.out⟩
end Go.Proofs.Ytpbmeeogledmdae
