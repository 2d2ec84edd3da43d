/-
  Layer 7: what a stop is, by the program and by the document.
-/
import Derived.Test.YtcdpiemkbefcoaaRtE
import Derived.Test.YtcdpiemkbefcoaaGeoR
namespace Go.Proofs.Ytcdpiemkbefcoaa
open Go.RowKit

abbrev Rq := Nat → Int
def rqV (q : Rq) : List Value := [.int .i64 (q 0), .int .i64 (q 1), .int .i64 (q 2), .int .i64 (q 3), .int .i64 (q 4), .int .i64 (q 5), .int .i64 (q 6), .int .i64 (q 7), .int .i64 (q 8), .int .i64 (q 9)]
def rqE (q : Rq) : Int := rqCode (q 0) (q 1) (q 2) (q 3) (q 4) (q 5) (q 6) (q 7) (q 8) (q 9)
theorem rqV_one (q : Rq) : ∀ v ∈ (rqV q).toArray.toList, v.oneCell' = true := by simp [rqV, Value.oneCell']
theorem rqV_len (t : List Rq) : ∀ x ∈ t.map rqV, x.length = 10 := by
  intro x hx
  obtain ⟨s, _, rfl⟩ := List.mem_map.1 hx
  rfl
def rqZ0 : Rq := fun _ => 0
/-- a stop's place, its window, how long it is served -/
structure Pt where
  x : Int
  y : Int
  e : Int
  l : Int
  s : Int
def ptOf (s : Int × Int) (t : List Rq) : Option Pt :=
  if s.1 < 0 ∨ (t.length : Int) ≤ s.1 then none
  else if s.2 = 0 then some ⟨t.getD s.1.toNat rqZ0 0, t.getD s.1.toNat rqZ0 1, t.getD s.1.toNat rqZ0 4, t.getD s.1.toNat rqZ0 5, t.getD s.1.toNat rqZ0 9⟩
  else if s.2 = 1 then some ⟨t.getD s.1.toNat rqZ0 2, t.getD s.1.toNat rqZ0 3, t.getD s.1.toNat rqZ0 6, t.getD s.1.toNat rqZ0 7, t.getD s.1.toNat rqZ0 9⟩
  else none
def ptZ : Pt := ⟨0, 0, 0, 0, 0⟩
def Pt.row (p : Pt) : Array Value := #[.int .i64 p.x, .int .i64 p.y, .int .i64 p.e, .int .i64 p.l, .int .i64 p.s]
def ptG (s : Int × Int) (t : List Rq) : Pt := (ptOf s t).getD ptZ
def ptB (s : Int × Int) (t : List Rq) : Bool := (ptOf s t).isSome
theorem pt_size (p : Pt) : (Try.prog.info? 106).map (·.size) = some p.row.size := by kernel_rfl
theorem pt_one (p : Pt) : ∀ v ∈ p.row.toList, v.oneCell' = true := by simp [Pt.row, Value.oneCell']
theorem run_ptZ (w : World) : (Instr.build 106 #[]).run Try.prog w = .ok (.agg ptZ.row) w := by kernel_rfl
theorem run_pt (x y e l s : Int) (w : World) : (Instr.build 106 #[(0, .agg #[.int .i64 x, .int .i64 y]), (1, .agg #[.int .i64 e, .int .i64 l]), (2, .int .i64 s)]).run Try.prog w = .ok (.agg (Pt.mk x y e l s).row) w := by kernel_rfl
theorem rq_part {wx : World} {g : Nat} {q : Rq} (h : Blk wx g (rqV q).toArray 47) :
    (loadVar 26 ⟨g, 0, none⟩).run Try.prog wx = .ok (.agg #[.int .i64 (q 0), .int .i64 (q 1)]) wx ∧ (loadVar 26 ⟨g, 2, none⟩).run Try.prog wx = .ok (.agg #[.int .i64 (q 2), .int .i64 (q 3)]) wx ∧
    (loadVar 45 ⟨g, 4, none⟩).run Try.prog wx = .ok (.agg #[.int .i64 (q 4), .int .i64 (q 5)]) wx ∧ (loadVar 45 ⟨g, 6, none⟩).run Try.prog wx = .ok (.agg #[.int .i64 (q 6), .int .i64 (q 7)]) wx := by
  have hs : (rqV q).toArray.size = 10 := rfl
  refine ⟨?_, ?_, ?_, ?_⟩
  · rw [load_part (P := Try.prog) wx g (rqV q).toArray 47 h 0 2 (by rw [hs]; omega) 26 _ Try.underlying26 rfl (by kernel_rfl)]; rfl
  · rw [load_part (P := Try.prog) wx g (rqV q).toArray 47 h 2 2 (by rw [hs]; omega) 26 _ Try.underlying26 rfl (by kernel_rfl)]; rfl
  · rw [load_part (P := Try.prog) wx g (rqV q).toArray 47 h 4 2 (by rw [hs]; omega) 45 _ Try.underlying45 rfl (by kernel_rfl)]; rfl
  · rw [load_part (P := Try.prog) wx g (rqV q).toArray 47 h 6 2 (by rw [hs]; omega) 45 _ Try.underlying45 rfl (by kernel_rfl)]; rfl
theorem getD_at (t : List Rq) {n : Nat} (h : n < t.length) : t.getD n rqZ0 = t[n] := by simp [List.getD_eq_getElem?_getD, h]

set_option maxHeartbeats 2000000 in
set_option maxRecDepth 100000 in
theorem of_calls (p : Option Addr) (cap : Nat) (t : List Rq) (r k : Int) (w : World) (hE : Els w p 10 (t.map rqV)) :
    Calls Try.prog 74 #[.agg #[.int .i64 r, .int .i64 k], .slice p t.length cap] w fun e w' => e = .returned (.tuple #[.agg (ptG (r, k) t).row, .bool (ptB (r, k) t)]) ∧ Below w.heap.size w w' := by
  have hbig : t.length ≤ 140737488351232 := by simpa using hE.big
  have hG : ptG (r, k) t = (ptOf (r, k) t).getD ptZ := rfl
  have hT : ptB (r, k) t = (ptOf (r, k) t).isSome := rfl
  have hO : ptOf (r, k) t = if r < 0 ∨ (t.length : Int) ≤ r then none
    else if k = 0 then some ⟨t.getD r.toNat rqZ0 0, t.getD r.toNat rqZ0 1, t.getD r.toNat rqZ0 4, t.getD r.toNat rqZ0 5, t.getD r.toNat rqZ0 9⟩
    else if k = 1 then some ⟨t.getD r.toNat rqZ0 2, t.getD r.toNat rqZ0 3, t.getD r.toNat rqZ0 6, t.getD r.toNat rqZ0 7, t.getD r.toNat rqZ0 9⟩ else none := rfl
  generalize ptOf (r, k) t = O at hG hT hO
  generalize ptG (r, k) t = G at hG ⊢
  generalize ptB (r, k) t = T at hT ⊢
  replace hG := Lib.hid hG
  replace hT := Lib.hid hT
  replace hO := Lib.hid hO
  replace hE := Lib.hid hE
  have hnone : Hid (O = none → G = ptZ ∧ T = false) := Lib.hid (fun h => by rw [hG.out, hT.out, h]; exact ⟨rfl, rfl⟩)
  have hsome : Hid (∀ x, O = some x → G = x ∧ T = true) := Lib.hid (fun x h => by rw [hG.out, hT.out, h]; exact ⟨rfl, rfl⟩)
  clear hG hT
  go_enter Try.func74, Try.ntmps74
  go_upto_region 1 with fail
  refine wp_world' (fun wx => Blk wx w.heap.size #[.int .i64 r, .int .i64 k] 55 ∧ Blk wx (w.heap.size + 1) ptZ.row 106 ∧ Below w.heap.size w wx)
    ⟨(Blk.new w _ _).alloc _, Blk.new' w _ _ _, ((Below.refl _ _).alloc (Nat.le_refl _) _).alloc (by simp) _⟩ ?_
  rintro w1 ⟨hS, hZ, hb⟩
  have k0 : w1.cell? ⟨w.heap.size, 0, none⟩ = some (.int .i64 r) := hS.cell (i := 0) rfl
  have k1 : w1.cell? ⟨w.heap.size, 1, none⟩ = some (.int .i64 k) := hS.cell (i := 1) rfl
  have HZ := Lib.hid hZ
  have HS := Lib.hid hS
  by_cases c0 : r < 0
  · obtain ⟨rfl, rfl⟩ := hnone.out (by rw [hO.out, if_pos (.inl c0)])
    clear hO hnone hsome hS hZ
    go_wp2_with (first | (refine wpList_build_v rfl 106 rfl _ (run_ptZ _) ?_) | (refine wpList_store_row2 rfl 106 _ _ rfl rfl (w.heap.size + 1) rfl ptZ.row ptZ.row 106 HZ.out rfl rfl (pt_one _) (pt_size _) ?_; intro wz hBz hmz))
    exact bodyPost_ret (results_cell_tmp rfl _ _ (w.heap.size + 1) _ _ _ _ rfl hBz Try.underlying106 rfl (pt_size _)) rfl ⟨rfl, hb.trans (hmz.below hb.size (fun x hx => by omega))⟩
  by_cases c1 : r ≥ (t.length : Int)
  · obtain ⟨rfl, rfl⟩ := hnone.out (by rw [hO.out, if_pos (.inr c1)])
    clear hO hnone hsome hS hZ
    go_wp2_with (first | (refine wpList_build_v rfl 106 rfl _ (run_ptZ _) ?_) | (refine wpList_store_row2 rfl 106 _ _ rfl rfl (w.heap.size + 1) rfl ptZ.row ptZ.row 106 HZ.out rfl rfl (pt_one _) (pt_size _) ?_; intro wz hBz hmz))
    exact bodyPost_ret (results_cell_tmp rfl _ _ (w.heap.size + 1) _ _ _ _ rfl hBz Try.underlying106 rfl (pt_size _)) rfl ⟨rfl, hb.trans (hmz.below hb.size (fun x hx => by omega))⟩
  obtain ⟨n, rfl⟩ := Int.eq_ofNat_of_zero_le (show 0 ≤ r by omega)
  have hn : n < t.length := by omega
  have hO2 : O = if k = 0 then some ⟨t[n] 0, t[n] 1, t[n] 4, t[n] 5, t[n] 9⟩ else if k = 1 then some ⟨t[n] 2, t[n] 3, t[n] 6, t[n] 7, t[n] 9⟩ else none := by
    rw [hO.out, if_neg (by omega)]
    simp only [Int.toNat_natCast, getD_at t hn]
  obtain ⟨a, rfl⟩ := hE.out.some_of (k := n) (by simpa using hn)
  have hla := Lib.hid ((hE.out.below hb).load (P := Try.prog) (a := a) rfl (k := n) (by simpa using hn) (ty := 47) Try.underlying47 rfl (by kernel_rfl))
  rw [List.getElem_map] at hla
  generalize t[n] = q at hO2 hla
  replace hO2 := Lib.hid hO2
  clear hO hS hZ
  go_upto_region 4 with (first | (refine wpList_load_v rfl 47 _ rfl (a.add (n * 10)) rfl _ hla.out ?_) | (refine wpList_store_new rfl 47 _ _ rfl rfl rfl _ (rqV q).toArray _ rfl rfl (rqV_one _) (by kernel_rfl) ?_))
  refine wp_world' (fun wx => Blk wx w.heap.size #[.int .i64 (n : Int), .int .i64 k] 55 ∧ Blk wx (w.heap.size + 1) ptZ.row 106 ∧ Blk wx w1.heap.size (rqV q).toArray 47 ∧ Below w.heap.size w wx)
    ⟨HS.out.alloc _, HZ.out.alloc _, Blk.new _ _ _, hb.alloc hb.size _⟩ ?_
  rintro w2 ⟨hS, hZ, hQ, hb2⟩
  clear HZ HS k0 k1 hb hla
  generalize w1.heap.size = g6 at *
  have k1 : w2.cell? ⟨w.heap.size, 1, none⟩ = some (.int .i64 k) := hS.cell (i := 1) rfl
  have k9 : w2.cell? ⟨g6, 9, none⟩ = some (.int .i64 (q 9)) := hQ.cell (i := 9) rfl
  have hq := Lib.hid (rq_part hQ)
  have HZ := Lib.hid hZ
  clear hS hZ hQ
  by_cases e0 : k = 0
  · subst e0
    obtain ⟨rfl, rfl⟩ := hsome.out _ (hO2.out.trans (if_pos rfl))
    clear hO2 hnone hsome
    go_wp2_with (first | (refine wpList_load_v rfl 26 _ rfl ⟨g6, 0, none⟩ rfl _ hq.out.1 ?_) | (refine wpList_load_v rfl 45 _ rfl ⟨g6, 4, none⟩ rfl _ hq.out.2.2.1 ?_) | (refine wpList_buildn_v rfl 106 _ rfl #[(0, .agg #[.int .i64 (q 0), .int .i64 (q 1)]), (1, .agg #[.int .i64 (q 4), .int .i64 (q 5)]), (2, .int .i64 (q 9))] rfl _ (run_pt _ _ _ _ _ _) ?_) | (refine wpList_store_row2 rfl 106 _ _ rfl rfl (w.heap.size + 1) rfl ptZ.row (Pt.mk (q 0) (q 1) (q 4) (q 5) (q 9)).row 106 HZ.out rfl rfl (pt_one _) (pt_size _) ?_; intro wz hBz hmz))
    exact bodyPost_ret (results_cell_tmp rfl _ _ (w.heap.size + 1) _ _ _ _ rfl hBz Try.underlying106 rfl (pt_size _)) rfl ⟨rfl, hb2.trans (hmz.below hb2.size (fun x hx => by omega))⟩
  · by_cases e1 : k = 1
    · subst e1
      obtain ⟨rfl, rfl⟩ := hsome.out _ (hO2.out.trans ((if_neg (by decide)).trans (if_pos rfl)))
      clear hO2 hnone hsome
      go_wp2_with (first | (refine wpList_load_v rfl 26 _ rfl ⟨g6, 2, none⟩ rfl _ hq.out.2.1 ?_) | (refine wpList_load_v rfl 45 _ rfl ⟨g6, 6, none⟩ rfl _ hq.out.2.2.2 ?_) | (refine wpList_buildn_v rfl 106 _ rfl #[(0, .agg #[.int .i64 (q 2), .int .i64 (q 3)]), (1, .agg #[.int .i64 (q 6), .int .i64 (q 7)]), (2, .int .i64 (q 9))] rfl _ (run_pt _ _ _ _ _ _) ?_) | (refine wpList_store_row2 rfl 106 _ _ rfl rfl (w.heap.size + 1) rfl ptZ.row (Pt.mk (q 2) (q 3) (q 6) (q 7) (q 9)).row 106 HZ.out rfl rfl (pt_one _) (pt_size _) ?_; intro wz hBz hmz))
      exact bodyPost_ret (results_cell_tmp rfl _ _ (w.heap.size + 1) _ _ _ _ rfl hBz Try.underlying106 rfl (pt_size _)) rfl ⟨rfl, hb2.trans (hmz.below hb2.size (fun x hx => by omega))⟩
    · obtain ⟨rfl, rfl⟩ := hnone.out (hO2.out.trans ((if_neg e0).trans (if_neg e1)))
      clear hO2 hnone hsome
      go_wp2_with (first | (refine wpList_build_v rfl 106 rfl _ (run_ptZ _) ?_) | (refine wpList_store_row2 rfl 106 _ _ rfl rfl (w.heap.size + 1) rfl ptZ.row ptZ.row 106 HZ.out rfl rfl (pt_one _) (pt_size _) ?_; intro wz hBz hmz))
      exact bodyPost_ret (results_cell_tmp rfl _ _ (w.heap.size + 1) _ _ _ _ rfl hBz Try.underlying106 rfl (pt_size _)) rfl ⟨rfl, hb2.trans (hmz.below hb2.size (fun x hx => by omega))⟩
end Go.Proofs.Ytcdpiemkbefcoaa
