/-
  Layer 14: the program's search by hand: the first of the least ways.
-/
import Derived.Test.YtpbmeeogledmdaeWz14
namespace Go.Proofs.Ytpbmeeogledmdae
open Go.RowKit
attribute [local go_sem] Oper.semAt_some

def wyC (s : Wy4) : Array Value := #[.int .i64 s.1.1, .int .i64 s.1.2.1, .int .i64 s.1.2.2]
/-- the least so far, behind one way more -/
def tkS (s x : Wy4) : Wy4 := if x.2 < s.2 then x else s
def wy0 : Wy4 := ((-1, 0, 0), 4294967296)
theorem run_u64Y {w : World} {p : Addr} {n : Int} (hc : w.cell? p = some (.int .u64 n)) : (loadVar 36 p).run Try.prog w = .ok (.int .u64 n) w := by go_simp
set_option maxHeartbeats 4000000 in
set_option maxRecDepth 100000 in
theorem take_calls (s x : Wy4) (g8 g9 : Nat) (w : World) (h8 : Blk w g8 (wyC s) 109) (h9 : Blk w g9 #[.int .u64 s.2] 36) (hne : g8 ≠ g9) (hx : 0 ≤ x.2 ∧ x.2 ≤ 4194304) :
    Calls Try.prog 58 #[.agg #[.int .i64 x.1.1, .int .i64 x.1.2.1, .int .i64 x.1.2.2], .int .i64 x.2, .pointer (some ⟨g9, 0, none⟩), .pointer (some ⟨g8, 0, none⟩)] w fun e w' =>
      (∃ v, e = .returned v) ∧ Blk w' g8 (wyC (tkS s x)) 109 ∧ Blk w' g9 #[.int .u64 (tkS s x).2] 36 ∧ Mod (fun k => k = g8 ∨ k = g9) w w' := by
  have hlt8 := h8.lt
  have hlt9 := h9.lt
  obtain ⟨⟨xv, xi, xj⟩, xr⟩ := x
  dsimp only at hx ⊢
  have hL := Lib.hid (run_load_row (P := Try.prog) _ w.heap.size 109 #[.int .i64 xv, .int .i64 xi, .int .i64 xj] _ _ (Blk.new w #[.int .i64 xv, .int .i64 xi, .int .i64 xj] 109) Try.underlying109 rfl (by kernel_rfl))
  have h8a := Lib.hid (h8.alloc (.cells #[.int .i64 xv, .int .i64 xi, .int .i64 xj] 109))
  have h9a := h9.alloc (.cells #[.int .i64 xv, .int .i64 xi, .int .i64 xj] 109)
  have c9 := h9a.cell (i := 0) (v := .int .u64 s.2) rfl
  have s1 : IntKind.u64.wrap xr = xr := IntWalk.u64_in _ (by omega)
  have hm := Lib.hid ((Mod.refl (fun k => k = g8 ∨ k = g9) w).alloc (.cells #[.int .i64 xv, .int .i64 xi, .int .i64 xj] 109))
  replace h9a := Lib.hid h9a
  clear h8 h9
  by_cases hlt : xr < s.2
  · have ht : tkS s ((xv, xi, xj), xr) = ((xv, xi, xj), xr) := if_pos hlt
    rw [ht]
    clear ht
    go_enter Try.func58, Try.ntmps58
    go_wp2_with (first | (refine wpList_load_v rfl 109 _ rfl ⟨w.heap.size, 0, none⟩ rfl _ hL.out ?_) |
      (refine wpList_store_row rfl 109 _ _ rfl rfl g8 rfl (wyC s) #[.int .i64 xv, .int .i64 xi, .int .i64 xj] _ h8a.out rfl rfl (by simp [Value.oneCell']) (by kernel_rfl) ?_; intro w5 hB5 hM5; have h9b := h9a.out.mod hM5 (by show ¬ g9 = g8; omega); have c9b := h9b.cell (i := 0) (v := .int .u64 s.2) rfl; have f9b := h9b.froz 0; replace h9b := Lib.hid h9b; replace hB5 := Lib.hid hB5; replace hM5 := Lib.hid hM5))
    go_end0
    exact ⟨⟨_, rfl⟩, hB5.out.other (by show g8 ≠ g9; exact hne) _, h9b.out.set 0 _, (hm.out.trans (hM5.out.mono (fun k _ h => .inl h))).setCell (p := ⟨g9, 0, none⟩) (fun _ => .inr rfl) _⟩
  · have ht : tkS s ((xv, xi, xj), xr) = s := if_neg hlt
    rw [ht]
    clear ht
    go_enter Try.func58, Try.ntmps58
    go_wp2
    go_end0
    exact ⟨⟨_, rfl⟩, h8a.out, h9a.out, hm.out⟩
theorem wyC_one (s : Wy4) : ∀ v ∈ (wyC s).toList, v.oneCell' = true := by simp [wyC, Value.oneCell']
theorem st_way {w : World} {g : Nat} {s : Wy4} (hB : Blk w g (wyC s) 109) :
    (storeVar 109 ⟨g, 0, none⟩ (.agg (wyC s))).run Try.prog w = .ok () (w.setRow g (wyC s)) ∧ Blk (w.setRow g (wyC s)) g (wyC s) 109 ∧ Mod (· = g) w (w.setRow g (wyC s)) :=
  ⟨run_storeVar_row w g _ (wyC s) (wyC s) _ hB rfl (wyC_one s) (by kernel_rfl), setRow_heap w g _ _ _ (0, 0) hB, ⟨rfl, rfl, rfl, by simp [World.setRow], fun k _ hk => setRow_other w g k _ hk⟩⟩
theorem run_storeU {ρ : Operand → Value} {o : Oper} {w : World} {x y : Operand} {g : Nat} {n : Int} {u : Value} (ho : o.op = .store 36 x y) (hx : ρ x = .pointer (some ⟨g, 0, none⟩)) (hy : ρ y = .int .u64 n) (hc : w.cell? ⟨g, 0, none⟩ = some u) (hf : w.frozen? ⟨g, 0, none⟩ = false) :
    (execOp ρ o).run Try.prog w = .ok .skip (w.setCell ⟨g, 0, none⟩ (.int .u64 n)) := by
  unfold execOp
  simp only [ho, hx, hy]
  go_simp
theorem none_calls (w : World) : Calls Try.prog 38 #[] w fun e w' => e = .returned (.agg #[.int .i64 (-1), .int .i64 0, .int .i64 0]) ∧ Below w.heap.size w w' := by
  have hB := Blk.new w #[.int .i64 (-1), .int .i64 0, .int .i64 0] 109
  have hl := Lib.hid (run_load_row (P := Try.prog) _ w.heap.size 109 _ _ _ hB Try.underlying109 rfl (by kernel_rfl))
  have hb := Lib.hid (new_below w (.cells #[.int .i64 (-1), .int .i64 0, .int .i64 0] 109))
  clear hB
  go_enter Try.func38, Try.ntmps38
  go_wp2
  exact bodyPost_ret (res_cell1 Try.results38 rfl hl.out) rfl ⟨rfl, hb.out⟩
theorem new_four (w : World) (a b c x : Value) (s t u v : TypeId) {W : World} (h : (((w.alloc (.cells #[a] s)).alloc (.cells #[b] t)).alloc (.cells #[c] u)).alloc (.cells #[x] v) = W) :
    Below w.heap.size w W ∧ W.heap.size = w.heap.size + 4 ∧ W.cell? ⟨w.heap.size, 0, none⟩ = some a ∧ W.cell? ⟨w.heap.size + 1, 0, none⟩ = some b ∧ W.cell? ⟨w.heap.size + 2, 0, none⟩ = some c ∧ W.cell? ⟨w.heap.size + 3, 0, none⟩ = some x := by
  subst h
  refine ⟨(((new_below w _).alloc (by simp) _).alloc (by simp; omega) _).alloc (by simp; omega) _, by simp, cellA _ (cellA _ (cellA _ (cellN w a s).1)), cellA _ (cellA _ ?_), cellA _ ?_, ?_⟩
  · simp
  · have := (cellN ((w.alloc (.cells #[a] s)).alloc (.cells #[b] t)) c u).1
    simpa using this
  · have := (cellN (((w.alloc (.cells #[a] s)).alloc (.cells #[b] t)).alloc (.cells #[c] u)) x v).1
    simpa using this
theorem ways_calls (q q' r : Option Addr) (n d m d' k dr : Nat) (req : Int) (w : World) : Calls Try.prog 59 #[.slice q n d, .slice r k dr, .slice q' m d', .int .i64 req] w fun e w' =>
    e = .returned (.func (.func 68) #[] #[.pointer (some ⟨w.heap.size + 1, 0, none⟩), .pointer (some ⟨w.heap.size, 0, none⟩), .pointer (some ⟨w.heap.size + 2, 0, none⟩), .pointer (some ⟨w.heap.size + 3, 0, none⟩)]) ∧
      Below w.heap.size w w' ∧ w'.heap.size = w.heap.size + 4 ∧ w'.cell? ⟨w.heap.size, 0, none⟩ = some (.slice q n d) ∧ w'.cell? ⟨w.heap.size + 1, 0, none⟩ = some (.slice r k dr) ∧ w'.cell? ⟨w.heap.size + 2, 0, none⟩ = some (.slice q' m d') ∧ w'.cell? ⟨w.heap.size + 3, 0, none⟩ = some (.int .i64 req) := by
  have h := Lib.hid (fun W => new_four w (.slice q n d) (.slice r k dr) (.slice q' m d') (.int .i64 req) 28 29 30 3 (W := W))
  go_enter Try.func59, Try.ntmps59
  go_wp2
  go_ret
  exact ⟨rfl, h.out _ rfl⟩
set_option maxHeartbeats 4000000 in
set_option maxRecDepth 100000 in
theorem pleast_calls (w : World) (V : Nat → Value) (aV aR : Addr) (q' : Option Addr) (d dr m d' : Nat) (req : Int) (E R : Nat → Int) (ok : Bool)
    (hmay : ∀ wx, Below w.heap.size w wx → Calls Try.prog 57 #[.slice (some aV) 2 d, .slice (some aR) 2 dr, .slice q' m d', .int .i64 req] wx fun e w' => e = .returned (.bool ok) ∧ Below wx.heap.size wx w')
    (hf : ok = true → WyF w V q' m d' req E R)
    (hlv : ∀ wx, Below w.heap.size w wx → ∀ i, i < 2 → (loadVar 47 (aV.add (i * 5))).run Try.prog wx = .ok (V i) wx) (hlr : ∀ wx, Below w.heap.size w wx → ∀ i, i < 2 → (loadVar 48 (aR.add i)).run Try.prog wx = .ok (.slice none 0 0) wx) :
    Calls Try.prog 37 #[.slice (some aV) 2 d, .slice (some aR) 2 dr, .slice q' m d', .int .i64 req] w fun e w' =>
      e = .returned (.tuple #[.agg (wyC (if ok = true then (wyX R).foldl tkS wy0 else wy0)), .int .u64 (if ok = true then (wyX R).foldl tkS wy0 else wy0).2]) ∧ Below w.heap.size w w' := by
  obtain ⟨sR, hsR⟩ : ∃ sR, (if ok = true then (wyX R).foldl tkS wy0 else wy0) = sR := ⟨_, rfl⟩
  rw [hsR]
  replace hsR := Lib.hid hsR
  replace hmay := Lib.hid hmay
  replace hf := Lib.hid hf
  replace hlv := Lib.hid hlv
  replace hlr := Lib.hid hlr
  refine calls_of_all fun n => ?_
  refine callsIn_of_wp_marks Try.func37 rfl trivial ?_ rfl
  simp only [Try.ntmps37, List.size_toArray, List.length_cons, List.length_nil, Nat.reduceAdd, Nat.reduceSub, Array.replicate_succ, Array.replicate_zero, List.push_toArray, List.append_toArray, List.nil_append, List.cons_append]
  refine wpIn_wide.2 ?_
  go_wp2_with fail
  refine (none_calls _).mono ?_
  rintro e w1 ⟨rfl, hb1⟩
  have hm1 := (Mod.refl (fun _ => False) _).after hb1
  have hB8 := ((Blk.new w #[.int .i64 0, .int .i64 0, .int .i64 0] 109).alloc (.cells #[.int .u64 0] 36)).mod hm1 (fun h => h)
  have hB9 := (Blk.new' w (.cells #[.int .i64 0, .int .i64 0, .int .i64 0] 109) #[.int .u64 0] 36).mod hm1 (fun h => h)
  have hbw := hm1.below (B := w.heap.size) (by simp; omega) (fun _ h => h.elim)
  have hb1w : Below w.heap.size w w1 := ((new_below w (.cells #[.int .i64 0, .int .i64 0, .int .i64 0] 109)).alloc (by simp) (.cells #[.int .u64 0] 36)).trans hbw
  replace hB8 := Lib.hid hB8
  replace hB9 := Lib.hid hB9
  replace hb1w := Lib.hid hb1w
  clear hb1 hm1 hbw
  go_wp2_with (first | (refine wpList_store_row rfl 109 _ _ rfl rfl w.heap.size rfl #[.int .i64 0, .int .i64 0, .int .i64 0] #[.int .i64 (-1), .int .i64 0, .int .i64 0] _ hB8.out rfl rfl (by simp [Value.oneCell']) (by kernel_rfl) ?_; intro w2 hB8b hM2; have hB9b := hB9.out.mod hM2 (by show ¬ w.heap.size + 1 = w.heap.size; omega); have c9 := hB9b.cell (i := 0) (v := .int .u64 0) rfl; have f9 := hB9b.froz 0; replace hB9b := Lib.hid hB9b; replace hB8b := Lib.hid hB8b; replace hM2 := Lib.hid hM2))
  have hB8c := hB8b.out.other (p := ⟨w.heap.size + 1, 0, none⟩) (by show w.heap.size ≠ w.heap.size + 1; omega) (.int .u64 4294967296)
  have hB9c := hB9b.out.set 0 (.int .u64 4294967296)
  have hb2w := (hb1w.out.trans (hM2.out.below hb1w.out.size (fun k h => by have : k = w.heap.size := h; omega))).setCell (p := ⟨w.heap.size + 1, 0, none⟩) (by show w.heap.size ≤ w.heap.size + 1; omega) (.int .u64 4294967296)
  refine (hmay.out _ hb2w).mono ?_
  rintro e w3 ⟨rfl, hb3⟩
  have hm3 := (Mod.refl (fun _ => False) _).after hb3
  have hP8 := Lib.hid (show Blk w3 w.heap.size (wyC wy0) 109 from hB8c.mod hm3 (fun h => h))
  have hP9 := Lib.hid (show Blk w3 (w.heap.size + 1) #[.int .u64 wy0.2] 36 from hB9c.mod hm3 (fun h => h))
  have hb3w := Lib.hid (hb2w.trans (hm3.below hb2w.size (fun _ h => h.elim)))
  clear hB8 hB9 hb1w hB8b hB9b hM2 c9 f9 hB8c hB9c hb2w hb3 hm3 hmay
  cases ok with
  | false =>
    obtain rfl : wy0 = sR := by have := hsR.out; rwa [if_neg (by simp)] at this
    clear hf hlv hlr hsR
    go_wp2_with fail
    refine wp_region_rove (X := Unit) () (fun x => [(20, .agg (wyC wy0)), (21, .int .u64 (wy0).2)])
      (fun x d W' => Blk W' w.heap.size (wyC wy0) 109 ∧ Blk W' (w.heap.size + 1) #[.int .u64 (wy0).2] 36 ∧ Mod (fun k => k = w.heap.size ∨ k = w.heap.size + 1) w3 W') (by kernel_rfl) (by kernel_rfl) (by kernel_rfl) (by kernel_rfl) (fun x => by kernel_rfl)
      ⟨hP8.out.drew, hP9.out.drew, (Mod.refl _ _).drew⟩ ?_ ?_
    · intro aF hAF
      have E8 : ∀ x, (aF x).eval (.tmp 8) = .pointer (some ⟨w.heap.size, 0, none⟩) := by intro x; rw [hAF]; kernel_rfl
      have E9 : ∀ x, (aF x).eval (.tmp 9) = .pointer (some ⟨w.heap.size + 1, 0, none⟩) := by intro x; rw [hAF]; kernel_rfl
      have T20 : ∀ x, (aF x).tmps[20]? = some (.agg (wyC wy0)) := by intro x; rw [hAF]; kernel_rfl
      have E20 : ∀ x, (aF x).eval (.tmp 20) = .agg (wyC wy0) := by intro x; rw [hAF]; kernel_rfl
      have T21 : ∀ x, (aF x).tmps[21]? = some (.int .u64 (wy0).2) := by intro x; rw [hAF]; kernel_rfl
      have E21 : ∀ x, (aF x).eval (.tmp 21) = .int .u64 (wy0).2 := by intro x; rw [hAF]; kernel_rfl
      replace hAF := Lib.hid hAF
      refine ⟨?_, ?_, ?_, ?_, trivial⟩
      · exact opOk3_quiet _ (by intro x t hd _; cases hd; exact T20 x) (fun _ => rfl) fun x d w' hd hc => sv (run_load1 rfl (E8 x) (run_load_row' (P := Try.prog) _ w.heap.size 109 _ _ _ hc.1 Try.underlying109 rfl (by kernel_rfl))) hc
      · exact opOk3_quiet _ (by intro x t hd _; cases hd; exact T21 x) (fun _ => rfl) fun x d w' hd hc => sv (run_load1 rfl (E9 x) (run_u64Y (hc.2.1.cell (i := 0) rfl))) hc
      · exact opOk3_quiet (fun _ => undef) (by intro x t hd _; cases hd) (fun _ => rfl) fun x d w' hd hc => ss (run_storeP rfl (E8 x) (E20 x) (st_way hc.1).1) ⟨(st_way hc.1).2.1, hc.2.1.mod (st_way hc.1).2.2 (by omega), hc.2.2.trans ((st_way hc.1).2.2.mono (fun k _ h => .inl h))⟩
      · exact opOk3_quiet (fun _ => undef) (by intro x t hd _; cases hd) (fun _ => rfl) fun x d w' hd hc => ss (run_storeU rfl (E9 x) (E21 x) (hc.2.1.cell (i := 0) rfl) (hc.2.1.froz 0)) ⟨hc.1.other (p := ⟨w.heap.size + 1, 0, none⟩) (by show w.heap.size ≠ w.heap.size + 1; omega) _, hc.2.1.set 0 _, hc.2.2.setCell (p := ⟨w.heap.size + 1, 0, none⟩) (fun _ => .inr rfl) _⟩
    · intro x d w' hd hc
      simp only [putAll, List.foldl_cons, List.foldl_nil, Act.put, List.setIfInBounds_toArray, List.set_cons_succ, List.set_cons_zero]
      obtain ⟨b8, b9, bm⟩ := hc
      have hbz := Lib.hid (hb3w.out.trans (bm.below hb3w.out.size (fun k h => by rcases h with h | h <;> omega)))
      go_wp2_with fail
      exact ⟨_, res_cell2 Try.results37 rfl rfl (run_load_row' (P := Try.prog) _ w.heap.size 109 _ _ _ b8 Try.underlying109 rfl (by kernel_rfl)) (run_u64Y (b9.cell (i := 0) rfl)), rfl, hbz.out⟩
  | true =>
    replace hf := Lib.hid (hf.out rfl)
    have hz3 : w.heap.size + 2 ≤ w3.heap.size := by have := hP9.out.lt; omega
    go_wp2_with fail
    refine (ways_calls _ _ _ _ _ _ _ _ _ _ _).mono ?_
    obtain ⟨FV, hFV⟩ : ∃ FV : Value, FV = .func (.func 58) #[] #[.pointer (some ⟨w.heap.size + 1, 0, none⟩), .pointer (some ⟨w.heap.size, 0, none⟩)] := ⟨_, rfl⟩
    rw [← hFV]
    rintro e W0 ⟨rfl, hb4, hz4, c0, c1, c2, c3⟩
    simp only [World.size_alloc] at hz4 c0 c1 c2 c3
    have hm4 := (Mod.refl (fun _ => False) _).after hb4
    have hA8 := (hP8.out.alloc (.cells #[FV] 143)).mod hm4 (fun h => h)
    have hA9 := (hP9.out.alloc (.cells #[FV] 143)).mod hm4 (fun h => h)
    have hAF := (Blk.new w3 #[FV] 143).mod hm4 (fun h => h)
    have hb0 := ((hb3w.out.alloc hb3w.out.size (.cells #[FV] 143)).trans (hm4.below (B := w.heap.size) (by simp; omega) (fun _ h => h.elim)))
    obtain ⟨G, hG⟩ : ∃ G, w3.heap.size = G := ⟨_, rfl⟩
    simp only [World.size_alloc]
    rw [hG] at hz3 hz4 c0 c1 c2 c3 hAF ⊢
    clear hm4 hb4 hP8 hP9 hb3w hG
    go_wp2_with fail
    refine (wpIn_wide (n := n)).1 ?_
    refine wp_rangeIter (gf := 68) (lb := #[.pointer (some ⟨G + 1 + 1, 0, none⟩), .pointer (some ⟨G + 1, 0, none⟩), .pointer (some ⟨G + 1 + 2, 0, none⟩), .pointer (some ⟨G + 1 + 3, 0, none⟩)]) rfl (enters_of Try.func68 (by kernel_rfl) rfl)
      (encs := fun x : Wy4 => #[.agg #[.int .i64 x.1.1, .int .i64 x.1.2.1, .int .i64 x.1.2.2], .int .i64 x.2]) (fun _ => rfl) (S := fun _ => False) (Dt := fun k => k < w.heap.size ∨ k = G + 1 + 1 ∨ k = G + 1 ∨ k = G + 1 + 2 ∨ k = G + 1 + 3) (xs := wyX R)
      (fun o o' => ways_iter w _ V aV aR q' d dr m d' req E R hf.out (G + 1) (G + 1 + 1) (G + 1 + 2) (G + 1 + 3) ((hb0.alloc hb0.size _).alloc (by have := hb0.size; simp; omega) _) hlv.out hlr.out (cellA _ (cellA _ c1)) (cellA _ (cellA _ c0)) (cellA _ (cellA _ c2)) (cellA _ (cellA _ c3)))
      ⟨fun h => h, fun h => h⟩ (by omega)
      (fun pre W => Blk W w.heap.size (wyC (pre.foldl tkS wy0)) 109 ∧ Blk W (w.heap.size + 1) #[.int .u64 (pre.foldl tkS wy0).2] 36 ∧ Blk W G #[FV] 143 ∧ Below w.heap.size w W)
      (fun _ _ _ => False)
      ?hI ?hIx ?h0 ?hround ?hdone ?hstop
    case h0 => exact ⟨hA8, hA9, hAF, hb0⟩
    case hI =>
      rintro pre A B ⟨a8, a9, aF, ab⟩ hm
      exact ⟨a8.mod hm (fun hk => by rcases hk with h | h; exact h.elim; omega), a9.mod hm (fun hk => by rcases hk with h | h; exact h.elim; omega), aF.mod hm (fun hk => by rcases hk with h | h; exact h.elim; omega), ab.trans (hm.below ab.size (fun k hk => by rcases hk with h | h; exact h.elim; omega))⟩
    case hIx => exact fun _ _ _ _ h _ => h
    case hround =>
      rintro pre x rest W hx hSW hlt ⟨a8, a9, aF, ab⟩
      have hxb : 0 ≤ x.2 ∧ x.2 ≤ 4194304 := by
        have hmem : x ∈ wyX R := by rw [hx]; simp
        unfold wyX at hmem
        simp only [List.mem_cons, List.not_mem_nil, or_false] at hmem
        rcases hmem with rfl | rfl
        · exact (hf.out.bd 0).2.2
        · exact (hf.out.bd 1).2.2
      gi_wp2
      refine ⟨(Mod.refl _ _).alloc _, fun W2 hm => ?_⟩
      have bX := (Blk.new W #[.int .i64 x.1.1, .int .i64 x.1.2.1, .int .i64 x.1.2.2] 109).mod hm (by omega)
      have b8 := (a8.alloc (.cells #[.int .i64 x.1.1, .int .i64 x.1.2.1, .int .i64 x.1.2.2] 109)).mod hm (by omega)
      have b9 := (a9.alloc (.cells #[.int .i64 x.1.1, .int .i64 x.1.2.1, .int .i64 x.1.2.2] 109)).mod hm (by omega)
      have bF := (aF.alloc (.cells #[.int .i64 x.1.1, .int .i64 x.1.2.1, .int .i64 x.1.2.2] 109)).mod hm (by omega)
      have bb := (ab.alloc ab.size (.cells #[.int .i64 x.1.1, .int .i64 x.1.2.1, .int .i64 x.1.2.2] 109)).trans (hm.below (B := w.heap.size) (by have := ab.size; simp; omega) (fun k hk => by omega))
      have cF := bF.cell (i := 0) (v := FV) rfl
      rw [hFV] at cF
      have hlX := Lib.hid (run_load_row' (P := Try.prog) _ W.heap.size 109 _ _ _ bX Try.underlying109 rfl (by kernel_rfl))
      have hst : Hid ((pre ++ [x]).foldl tkS wy0 = tkS (pre.foldl tkS wy0) x) := Lib.hid (by rw [List.foldl_append]; rfl)
      have htk := Lib.hid (take_calls (pre.foldl tkS wy0) x w.heap.size (w.heap.size + 1) W2 b8 b9 (by omega) hxb)
      replace bF := Lib.hid bF
      replace bb := Lib.hid bb
      clear a8 a9 aF ab hm bX b8 b9 hxb hx
      obtain ⟨⟨xv, xi, xj⟩, xr⟩ := x
      dsimp only at hlX htk
      gi_wp2_with (first | (refine wpListIn_load_v (fun _ => trivial) rfl rfl 109 _ rfl ⟨W.heap.size, 0, none⟩ rfl _ hlX.out ?_))
      refine callR htk.out ?_
      rintro e W3 ⟨⟨v, rfl⟩, d8, d9, hm3⟩
      gi_wp2_with fail
      refine ⟨hm3.mono (fun k _ hk => ?_), by rw [hst.out]; exact d8, by rw [hst.out]; exact d9, bF.out.mod hm3 (by omega), bb.out.trans (hm3.below bb.out.size (fun k hk => by omega))⟩
      refine ⟨fun h => h, ?_, ?_, ?_⟩ <;> first | omega | (rcases hk with h | h <;> omega)
    case hdone =>
      rintro W ⟨a8, a9, aF, ab⟩ hD hlt
      have hsR' := hsR.out
      rw [if_pos (by simp)] at hsR'
      rw [hsR'] at a8 a9
      clear hsR hsR'
      clear aF hlv hlr hA8 hA9 hAF hb0 c0 c1 c2 c3 hf
      go_wp2_with fail
      refine wp_region_rove (X := Unit) () (fun x => [(34, .agg (wyC sR)), (35, .int .u64 (sR).2)])
        (fun x d W' => Blk W' w.heap.size (wyC sR) 109 ∧ Blk W' (w.heap.size + 1) #[.int .u64 (sR).2] 36 ∧ Mod (fun k => k = w.heap.size ∨ k = w.heap.size + 1) W W') (by kernel_rfl) (by kernel_rfl) (by kernel_rfl) (by kernel_rfl) (fun x => by kernel_rfl)
        ⟨a8.drew, a9.drew, (Mod.refl _ _).drew⟩ ?_ ?_
      · intro aF hAF
        have E8 : ∀ x, (aF x).eval (.tmp 8) = .pointer (some ⟨w.heap.size, 0, none⟩) := by intro x; rw [hAF]; kernel_rfl
        have E9 : ∀ x, (aF x).eval (.tmp 9) = .pointer (some ⟨w.heap.size + 1, 0, none⟩) := by intro x; rw [hAF]; kernel_rfl
        have T34 : ∀ x, (aF x).tmps[34]? = some (.agg (wyC sR)) := by intro x; rw [hAF]; kernel_rfl
        have E34 : ∀ x, (aF x).eval (.tmp 34) = .agg (wyC sR) := by intro x; rw [hAF]; kernel_rfl
        have T35 : ∀ x, (aF x).tmps[35]? = some (.int .u64 (sR).2) := by intro x; rw [hAF]; kernel_rfl
        have E35 : ∀ x, (aF x).eval (.tmp 35) = .int .u64 (sR).2 := by intro x; rw [hAF]; kernel_rfl
        replace hAF := Lib.hid hAF
        refine ⟨?_, ?_, ?_, ?_, trivial⟩
        · exact opOk3_quiet _ (by intro x t hd _; cases hd; exact T34 x) (fun _ => rfl) fun x d w' hd hc => sv (run_load1 rfl (E8 x) (run_load_row' (P := Try.prog) _ w.heap.size 109 _ _ _ hc.1 Try.underlying109 rfl (by kernel_rfl))) hc
        · exact opOk3_quiet _ (by intro x t hd _; cases hd; exact T35 x) (fun _ => rfl) fun x d w' hd hc => sv (run_load1 rfl (E9 x) (run_u64Y (hc.2.1.cell (i := 0) rfl))) hc
        · exact opOk3_quiet (fun _ => undef) (by intro x t hd _; cases hd) (fun _ => rfl) fun x d w' hd hc => ss (run_storeP rfl (E8 x) (E34 x) (st_way hc.1).1) ⟨(st_way hc.1).2.1, hc.2.1.mod (st_way hc.1).2.2 (by omega), hc.2.2.trans ((st_way hc.1).2.2.mono (fun k _ h => .inl h))⟩
        · exact opOk3_quiet (fun _ => undef) (by intro x t hd _; cases hd) (fun _ => rfl) fun x d w' hd hc => ss (run_storeU rfl (E9 x) (E35 x) (hc.2.1.cell (i := 0) rfl) (hc.2.1.froz 0)) ⟨hc.1.other (p := ⟨w.heap.size + 1, 0, none⟩) (by show w.heap.size ≠ w.heap.size + 1; omega) _, hc.2.1.set 0 _, hc.2.2.setCell (p := ⟨w.heap.size + 1, 0, none⟩) (fun _ => .inr rfl) _⟩
      · intro x d w' hd hc
        simp only [putAll, List.foldl_cons, List.foldl_nil, Act.put, List.setIfInBounds_toArray, List.set_cons_succ, List.set_cons_zero]
        obtain ⟨b8, b9, bm⟩ := hc
        have hbz := Lib.hid (ab.trans (bm.below ab.size (fun k h => by rcases h with h | h <;> omega)))
        have hD2 := (bm.block _ (by omega) (by omega)).trans hD
        go_wp2_with fail
        refine ⟨by simp, .inl ⟨_, _, rfl, run_takeDeferred hD2, ?_⟩⟩
        refine ⟨_, res_cell2 Try.results37 rfl rfl (run_load_row' (P := Try.prog) _ w.heap.size 109 (wyC sR) 109 _ ((World.putObj_heap_other (by omega)).trans b8) Try.underlying109 rfl (by kernel_rfl)) (run_u64Y ((putObj_cell (by show w.heap.size + 1 ≠ _; omega)).trans (b9.cell (i := 0) rfl))), rfl, below_putObj hbz.out (by omega) _⟩
    case hstop => exact fun c pre x rest W _ h => h.elim
end Go.Proofs.Ytpbmeeogledmdae
