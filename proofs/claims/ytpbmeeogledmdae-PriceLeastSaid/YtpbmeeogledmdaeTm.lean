/-
  Layer 7: what a stop is, by the program and by the document.
  The document's layer 7: Place, Window.
  The document's layer 7: Wrong.
  Layer 7: times, as a plain value; the document's Times.
  The document's layer 7: Times.
-/
import Derived.Test.YtpbmeeogledmdaeRt
import Derived.Test.YtpbmeeogledmdaeVeh
import Derived.Test.YtpbmeeogledmdaeEls
namespace Go.Proofs.Ytpbmeeogledmdae
open Go.RowKit

abbrev Rq := Nat → Int
def rqV (q : Rq) : List Value := [.int .i64 (q 0), .int .i64 (q 1), .int .i64 (q 2), .int .i64 (q 3), .int .i64 (q 4), .int .i64 (q 5), .int .i64 (q 6), .int .i64 (q 7), .int .i64 (q 8), .int .i64 (q 9)]
def rqE (q : Rq) : Int := rqCode (q 0) (q 1) (q 2) (q 3) (q 4) (q 5) (q 6) (q 7) (q 8) (q 9)
theorem rqV_one (q : Rq) : ∀ v ∈ (rqV q).toArray.toList, v.oneCell' = true := by simp [rqV, Value.oneCell']
theorem rqV_len (t : List Rq) : ∀ x ∈ t.map rqV, x.length = 10 := by
  intro x hx
  obtain ⟨s, _, rfl⟩ := List.mem_map.1 hx
  rfl
def rqZ0 : Rq := fun _ => 0
/-- a stop's place, its window, how long it is served -/
structure Pt where
  x : Int
  y : Int
  e : Int
  l : Int
  s : Int
def ptOf (s : Int × Int) (t : List Rq) : Option Pt :=
  if s.1 < 0 ∨ (t.length : Int) ≤ s.1 then none
  else if s.2 = 0 then some ⟨t.getD s.1.toNat rqZ0 0, t.getD s.1.toNat rqZ0 1, t.getD s.1.toNat rqZ0 4, t.getD s.1.toNat rqZ0 5, t.getD s.1.toNat rqZ0 9⟩
  else if s.2 = 1 then some ⟨t.getD s.1.toNat rqZ0 2, t.getD s.1.toNat rqZ0 3, t.getD s.1.toNat rqZ0 6, t.getD s.1.toNat rqZ0 7, t.getD s.1.toNat rqZ0 9⟩
  else none
def ptZ : Pt := ⟨0, 0, 0, 0, 0⟩
def Pt.row (p : Pt) : Array Value := #[.int .i64 p.x, .int .i64 p.y, .int .i64 p.e, .int .i64 p.l, .int .i64 p.s]
def ptG (s : Int × Int) (t : List Rq) : Pt := (ptOf s t).getD ptZ
def ptB (s : Int × Int) (t : List Rq) : Bool := (ptOf s t).isSome
theorem pt_size (p : Pt) : (Try.prog.info? 93).map (·.size) = some p.row.size := by kernel_rfl
theorem pt_one (p : Pt) : ∀ v ∈ p.row.toList, v.oneCell' = true := by simp [Pt.row, Value.oneCell']
theorem run_ptZ (w : World) : (Instr.build 93 #[]).run Try.prog w = .ok (.agg ptZ.row) w := by kernel_rfl
theorem run_pt (x y e l s : Int) (w : World) : (Instr.build 93 #[(0, .agg #[.int .i64 x, .int .i64 y]), (1, .agg #[.int .i64 e, .int .i64 l]), (2, .int .i64 s)]).run Try.prog w = .ok (.agg (Pt.mk x y e l s).row) w := by kernel_rfl
theorem rq_part {wx : World} {g : Nat} {q : Rq} (h : Blk wx g (rqV q).toArray 61) :
    (loadVar 45 ⟨g, 0, none⟩).run Try.prog wx = .ok (.agg #[.int .i64 (q 0), .int .i64 (q 1)]) wx ∧ (loadVar 45 ⟨g, 2, none⟩).run Try.prog wx = .ok (.agg #[.int .i64 (q 2), .int .i64 (q 3)]) wx ∧
    (loadVar 59 ⟨g, 4, none⟩).run Try.prog wx = .ok (.agg #[.int .i64 (q 4), .int .i64 (q 5)]) wx ∧ (loadVar 59 ⟨g, 6, none⟩).run Try.prog wx = .ok (.agg #[.int .i64 (q 6), .int .i64 (q 7)]) wx := by
  have hs : (rqV q).toArray.size = 10 := rfl
  refine ⟨?_, ?_, ?_, ?_⟩
  · rw [load_part (P := Try.prog) wx g (rqV q).toArray 61 h 0 2 (by rw [hs]; omega) 45 _ Try.underlying45 rfl (by kernel_rfl)]; rfl
  · rw [load_part (P := Try.prog) wx g (rqV q).toArray 61 h 2 2 (by rw [hs]; omega) 45 _ Try.underlying45 rfl (by kernel_rfl)]; rfl
  · rw [load_part (P := Try.prog) wx g (rqV q).toArray 61 h 4 2 (by rw [hs]; omega) 59 _ Try.underlying59 rfl (by kernel_rfl)]; rfl
  · rw [load_part (P := Try.prog) wx g (rqV q).toArray 61 h 6 2 (by rw [hs]; omega) 59 _ Try.underlying59 rfl (by kernel_rfl)]; rfl
theorem getD_at (t : List Rq) {n : Nat} (h : n < t.length) : t.getD n rqZ0 = t[n] := by simp [List.getD_eq_getElem?_getD, h]

set_option maxHeartbeats 2000000 in
set_option maxRecDepth 100000 in
theorem of_calls (p : Option Addr) (cap : Nat) (t : List Rq) (r k : Int) (w : World) (hE : Els w p 10 (t.map rqV)) :
    Calls Try.prog 49 #[.agg #[.int .i64 r, .int .i64 k], .slice p t.length cap] w fun e w' => e = .returned (.tuple #[.agg (ptG (r, k) t).row, .bool (ptB (r, k) t)]) ∧ Below w.heap.size w w' := by
  have hbig : t.length ≤ 140737488351232 := by simpa using hE.big
  have hG : ptG (r, k) t = (ptOf (r, k) t).getD ptZ := rfl
  have hT : ptB (r, k) t = (ptOf (r, k) t).isSome := rfl
  have hO : ptOf (r, k) t = if r < 0 ∨ (t.length : Int) ≤ r then none
    else if k = 0 then some ⟨t.getD r.toNat rqZ0 0, t.getD r.toNat rqZ0 1, t.getD r.toNat rqZ0 4, t.getD r.toNat rqZ0 5, t.getD r.toNat rqZ0 9⟩
    else if k = 1 then some ⟨t.getD r.toNat rqZ0 2, t.getD r.toNat rqZ0 3, t.getD r.toNat rqZ0 6, t.getD r.toNat rqZ0 7, t.getD r.toNat rqZ0 9⟩ else none := rfl
  generalize ptOf (r, k) t = O at hG hT hO
  generalize ptG (r, k) t = G at hG ⊢
  generalize ptB (r, k) t = T at hT ⊢
  replace hG := Lib.hid hG
  replace hT := Lib.hid hT
  replace hO := Lib.hid hO
  replace hE := Lib.hid hE
  have hnone : Hid (O = none → G = ptZ ∧ T = false) := Lib.hid (fun h => by rw [hG.out, hT.out, h]; exact ⟨rfl, rfl⟩)
  have hsome : Hid (∀ x, O = some x → G = x ∧ T = true) := Lib.hid (fun x h => by rw [hG.out, hT.out, h]; exact ⟨rfl, rfl⟩)
  clear hG hT
  go_enter Try.func49, Try.ntmps49
  go_upto_region 1 with fail
  refine wp_world' (fun wx => Blk wx w.heap.size #[.int .i64 r, .int .i64 k] 81 ∧ Blk wx (w.heap.size + 1) ptZ.row 93 ∧ Below w.heap.size w wx)
    ⟨(Blk.new w _ _).alloc _, Blk.new' w _ _ _, ((Below.refl _ _).alloc (Nat.le_refl _) _).alloc (by simp) _⟩ ?_
  rintro w1 ⟨hS, hZ, hb⟩
  have k0 : w1.cell? ⟨w.heap.size, 0, none⟩ = some (.int .i64 r) := hS.cell (i := 0) rfl
  have k1 : w1.cell? ⟨w.heap.size, 1, none⟩ = some (.int .i64 k) := hS.cell (i := 1) rfl
  have HZ := Lib.hid hZ
  have HS := Lib.hid hS
  by_cases c0 : r < 0
  · obtain ⟨rfl, rfl⟩ := hnone.out (by rw [hO.out, if_pos (.inl c0)])
    clear hO hnone hsome hS hZ
    go_wp2_with (first | (refine wpList_build_v rfl 93 rfl _ (run_ptZ _) ?_) | (refine wpList_store_row2 rfl 93 _ _ rfl rfl (w.heap.size + 1) rfl ptZ.row ptZ.row 93 HZ.out rfl rfl (pt_one _) (pt_size _) ?_; intro wz hBz hmz))
    exact bodyPost_ret (results_cell_tmp rfl _ _ (w.heap.size + 1) _ _ _ _ rfl hBz Try.underlying93 rfl (pt_size _)) rfl ⟨rfl, hb.trans (hmz.below hb.size (fun x hx => by omega))⟩
  by_cases c1 : r ≥ (t.length : Int)
  · obtain ⟨rfl, rfl⟩ := hnone.out (by rw [hO.out, if_pos (.inr c1)])
    clear hO hnone hsome hS hZ
    go_wp2_with (first | (refine wpList_build_v rfl 93 rfl _ (run_ptZ _) ?_) | (refine wpList_store_row2 rfl 93 _ _ rfl rfl (w.heap.size + 1) rfl ptZ.row ptZ.row 93 HZ.out rfl rfl (pt_one _) (pt_size _) ?_; intro wz hBz hmz))
    exact bodyPost_ret (results_cell_tmp rfl _ _ (w.heap.size + 1) _ _ _ _ rfl hBz Try.underlying93 rfl (pt_size _)) rfl ⟨rfl, hb.trans (hmz.below hb.size (fun x hx => by omega))⟩
  obtain ⟨n, rfl⟩ := Int.eq_ofNat_of_zero_le (show 0 ≤ r by omega)
  have hn : n < t.length := by omega
  have hO2 : O = if k = 0 then some ⟨t[n] 0, t[n] 1, t[n] 4, t[n] 5, t[n] 9⟩ else if k = 1 then some ⟨t[n] 2, t[n] 3, t[n] 6, t[n] 7, t[n] 9⟩ else none := by
    rw [hO.out, if_neg (by omega)]
    simp only [Int.toNat_natCast, getD_at t hn]
  obtain ⟨a, rfl⟩ := hE.out.some_of (k := n) (by simpa using hn)
  have hla := Lib.hid ((hE.out.below hb).load (P := Try.prog) (a := a) rfl (k := n) (by simpa using hn) (ty := 61) Try.underlying61 rfl (by kernel_rfl))
  rw [List.getElem_map] at hla
  generalize t[n] = q at hO2 hla
  replace hO2 := Lib.hid hO2
  clear hO hS hZ
  go_upto_region 4 with (first | (refine wpList_load_v rfl 61 _ rfl (a.add (n * 10)) rfl _ hla.out ?_) | (refine wpList_store_new rfl 61 _ _ rfl rfl rfl _ (rqV q).toArray _ rfl rfl (rqV_one _) (by kernel_rfl) ?_))
  refine wp_world' (fun wx => Blk wx w.heap.size #[.int .i64 (n : Int), .int .i64 k] 81 ∧ Blk wx (w.heap.size + 1) ptZ.row 93 ∧ Blk wx w1.heap.size (rqV q).toArray 61 ∧ Below w.heap.size w wx)
    ⟨HS.out.alloc _, HZ.out.alloc _, Blk.new _ _ _, hb.alloc hb.size _⟩ ?_
  rintro w2 ⟨hS, hZ, hQ, hb2⟩
  clear HZ HS k0 k1 hb hla
  generalize w1.heap.size = g6 at *
  have k1 : w2.cell? ⟨w.heap.size, 1, none⟩ = some (.int .i64 k) := hS.cell (i := 1) rfl
  have k9 : w2.cell? ⟨g6, 9, none⟩ = some (.int .i64 (q 9)) := hQ.cell (i := 9) rfl
  have hq := Lib.hid (rq_part hQ)
  have HZ := Lib.hid hZ
  clear hS hZ hQ
  by_cases e0 : k = 0
  · subst e0
    obtain ⟨rfl, rfl⟩ := hsome.out _ (hO2.out.trans (if_pos rfl))
    clear hO2 hnone hsome
    go_wp2_with (first | (refine wpList_load_v rfl 45 _ rfl ⟨g6, 0, none⟩ rfl _ hq.out.1 ?_) | (refine wpList_load_v rfl 59 _ rfl ⟨g6, 4, none⟩ rfl _ hq.out.2.2.1 ?_) | (refine wpList_buildn_v rfl 93 _ rfl #[(0, .agg #[.int .i64 (q 0), .int .i64 (q 1)]), (1, .agg #[.int .i64 (q 4), .int .i64 (q 5)]), (2, .int .i64 (q 9))] rfl _ (run_pt _ _ _ _ _ _) ?_) | (refine wpList_store_row2 rfl 93 _ _ rfl rfl (w.heap.size + 1) rfl ptZ.row (Pt.mk (q 0) (q 1) (q 4) (q 5) (q 9)).row 93 HZ.out rfl rfl (pt_one _) (pt_size _) ?_; intro wz hBz hmz))
    exact bodyPost_ret (results_cell_tmp rfl _ _ (w.heap.size + 1) _ _ _ _ rfl hBz Try.underlying93 rfl (pt_size _)) rfl ⟨rfl, hb2.trans (hmz.below hb2.size (fun x hx => by omega))⟩
  · by_cases e1 : k = 1
    · subst e1
      obtain ⟨rfl, rfl⟩ := hsome.out _ (hO2.out.trans ((if_neg (by decide)).trans (if_pos rfl)))
      clear hO2 hnone hsome
      go_wp2_with (first | (refine wpList_load_v rfl 45 _ rfl ⟨g6, 2, none⟩ rfl _ hq.out.2.1 ?_) | (refine wpList_load_v rfl 59 _ rfl ⟨g6, 6, none⟩ rfl _ hq.out.2.2.2 ?_) | (refine wpList_buildn_v rfl 93 _ rfl #[(0, .agg #[.int .i64 (q 2), .int .i64 (q 3)]), (1, .agg #[.int .i64 (q 6), .int .i64 (q 7)]), (2, .int .i64 (q 9))] rfl _ (run_pt _ _ _ _ _ _) ?_) | (refine wpList_store_row2 rfl 93 _ _ rfl rfl (w.heap.size + 1) rfl ptZ.row (Pt.mk (q 2) (q 3) (q 6) (q 7) (q 9)).row 93 HZ.out rfl rfl (pt_one _) (pt_size _) ?_; intro wz hBz hmz))
      exact bodyPost_ret (results_cell_tmp rfl _ _ (w.heap.size + 1) _ _ _ _ rfl hBz Try.underlying93 rfl (pt_size _)) rfl ⟨rfl, hb2.trans (hmz.below hb2.size (fun x hx => by omega))⟩
    · obtain ⟨rfl, rfl⟩ := hnone.out (hO2.out.trans ((if_neg e0).trans (if_neg e1)))
      clear hO2 hnone hsome
      go_wp2_with (first | (refine wpList_build_v rfl 93 rfl _ (run_ptZ _) ?_) | (refine wpList_store_row2 rfl 93 _ _ rfl rfl (w.heap.size + 1) rfl ptZ.row ptZ.row 93 HZ.out rfl rfl (pt_one _) (pt_size _) ?_; intro wz hBz hmz))
      exact bodyPost_ret (results_cell_tmp rfl _ _ (w.heap.size + 1) _ _ _ _ rfl hBz Try.underlying93 rfl (pt_size _)) rfl ⟨rfl, hb2.trans (hmz.below hb2.size (fun x hx => by omega))⟩
end Go.Proofs.Ytpbmeeogledmdae
namespace Go.Proofs.Ytpbmeeogledmdae
open Go.RowKit

theorem Els.part {P : Program} {w : World} {p : Option Addr} {n : Nat} {R : List (List Value)} (h : Els w p n R) {a : Addr} (ha : p = some a) {k : Nat} (hk : k < R.length) (o : Nat) (cs : List Value) (hcs : ∀ j v, cs[j]? = some v → R[k][o + j]? = some v) {ty : TypeId} {d : TypeDesc}
    (hu : P.underlying ty = some d) (hd : (match d with | .struct _ | .array _ _ => true | _ => false) = true) (hi : (P.info? ty).map (·.size) = some cs.length) :
    (loadVar ty ((a.add (k * n)).add o)).run P w = .ok (.agg cs.toArray) w := by
  refine run_loadVar_at w _ ty cs d (fun j v hj => ?_) hu hd hi
  rw [addr_add_add, addr_add_add]
  have := h.cells a ha k _ (o + j) v (List.getElem?_eq_getElem hk) (hcs j v hj)
  exact this
theorem Els.one {w : World} {p : Option Addr} {n : Nat} {R : List (List Value)} (h : Els w p n R) {a : Addr} (ha : p = some a) {k : Nat} (hk : k < R.length) (o : Nat) (v : Value) (hv : R[k][o]? = some v) : w.cell? ((a.add (k * n)).add o) = some v := by
  rw [addr_add_add]
  exact h.cells a ha k _ o v (List.getElem?_eq_getElem hk) hv
theorem pl_size (x y : Int) : (Try.prog.info? 45).map (·.size) = some (#[Value.int .i64 x, Value.int .i64 y] : Array Value).size := by kernel_rfl
theorem wi_size (x y : Int) : (Try.prog.info? 59).map (·.size) = some (#[Value.int .i64 x, Value.int .i64 y] : Array Value).size := by kernel_rfl
theorem run_plZ (w : World) : (Instr.build 45 #[]).run Try.prog w = .ok (.agg #[.int .i64 0, .int .i64 0]) w := by kernel_rfl
theorem run_wiZ (w : World) : (Instr.build 59 #[]).run Try.prog w = .ok (.agg #[.int .i64 0, .int .i64 0]) w := by kernel_rfl

end Go.Proofs.Ytpbmeeogledmdae
namespace Go.Proofs.Ytpbmeeogledmdae
open Go.RowKit

/-- what is wrong with what is handed in -/
def wrP (x y cp st en : Int) (l : List (Int × Int)) (t : List Rq) : Int :=
  if vehCode x y cp st en ≠ 0 then 2 else if t.any (fun q => rqE q != 0) then 2 else if chkP l ≠ 0 then 8 else if l.any (fun s => !ptB s t) then 8 else 0

end Go.Proofs.Ytpbmeeogledmdae
namespace Go.Proofs.Ytpbmeeogledmdae
open Go.RowKit

theorem own_mod {w w' : World} {base n k : Nat} {E : TypeId} {v : Value} {xs : List Value} (h : w.ownsRow base E n v k xs) {S : Nat → Prop} (hm : Mod S w w') (hs : ∀ g, v.ownBlock = some g → ¬ S g) : w'.ownsRow base E n v k xs := by
  refine ⟨h.1, ?_⟩
  rcases h.2 with h1 | ⟨g, cap, cur, hv, hg, hw, r⟩
  · exact .inl h1
  · refine .inr ⟨g, cap, cur, hv, hg, ?_, r⟩
    have hlt := (Array.getElem?_eq_some_iff.1 hw).1
    exact (hm.block g hlt (hs g (by rw [hv]; rfl))).trans hw
theorem own_below {w w' : World} {base n k : Nat} {E : TypeId} {v : Value} {xs : List Value} (h : w.ownsRow base E n v k xs) (hb : Below w.heap.size w w') : w'.ownsRow base E n v k xs :=
  own_mod h ((Mod.refl (fun _ => False) w).after hb) (fun _ _ h => h)
abbrev Tms := List (Int × Int × Int)
def tmV (x : Int × Int × Int) : List Value := [.int .i64 x.1, .int .i64 x.2.1, .int .i64 x.2.2]
theorem tmV_len (L : Tms) : ∀ x ∈ L.map tmV, x.length = 3 := by
  intro x hx
  obtain ⟨s, _, rfl⟩ := List.mem_map.1 hx
  rfl
/-- from stop to stop: the times, where it is then, and when; none: too late -/
def tmRun (t : List Rq) : List (Int × Int) → Int → Int → Int → Option (Tms × Int × Int × Int)
  | [], ax, ay, now => some ([], ax, ay, now)
  | s :: r, ax, ay, now =>
    if waB (ptG s t).e (ptG s t).l (now + dsP ax ay (ptG s t).x (ptG s t).y) = true then
      (tmRun t r (ptG s t).x (ptG s t).y (waN (ptG s t).e (ptG s t).l (now + dsP ax ay (ptG s t).x (ptG s t).y) + (ptG s t).s)).map fun q =>
        ((now + dsP ax ay (ptG s t).x (ptG s t).y, waN (ptG s t).e (ptG s t).l (now + dsP ax ay (ptG s t).x (ptG s t).y), waN (ptG s t).e (ptG s t).l (now + dsP ax ay (ptG s t).x (ptG s t).y) + (ptG s t).s) :: q.1, q.2)
    else none
/-- the times, the end, and the error -/
def tmP (x y cp st en : Int) (l : List (Int × Int)) (t : List Rq) : Tms × Int × Int :=
  if wrP x y cp st en l t ≠ 0 then ([], 0, wrP x y cp st en l t)
  else match tmRun t l x y st with
    | none => ([], 0, 9)
    | some (L, ax, ay, now) => if en < now + dsP ax ay x y then ([], 0, 9) else (L, now + dsP ax ay x y, 0)
theorem waN_bd {e l a : Int} (h : waB e l a = true) : 0 ≤ waN e l a ∧ waN e l a ≤ 1048576 := by
  unfold waN
  rw [if_pos h]
  unfold waB at h
  rw [Bool.and_eq_true] at h
  have h1 := of_decide_eq_true h.1
  have h2 := of_decide_eq_true h.2
  have h3 : e ≤ mx a e := by unfold mx; split <;> omega
  omega
theorem rqE_serve {q : Rq} (h : rqE q = 0) : 0 ≤ q 9 ∧ q 9 ≤ 1000 := by
  unfold rqE rqCode firstC at h
  cases h1 : (plB (q 0) (q 1) && plB (q 2) (q 3)) <;> rw [h1] at h
  · simp at h
  cases h2 : (wiB (q 4) (q 5) && wiB (q 6) (q 7)) <;> rw [h2] at h
  · simp at h
  cases h3 : (decide (1 ≤ q 8 ∧ q 8 ≤ 1000) && decide (0 ≤ q 9 ∧ q 9 ≤ 1000)) <;> rw [h3] at h
  · simp at h
  rw [Bool.and_eq_true] at h3
  exact of_decide_eq_true h3.2
/-- what is known where nothing is wrong -/
theorem wrP_zero {x y cp st en : Int} {l : List (Int × Int)} {t : List Rq} (h : wrP x y cp st en l t = 0) :
    vehCode x y cp st en = 0 ∧ (∀ q ∈ t, rqE q = 0) ∧ chkP l = 0 ∧ ∀ s ∈ l, ptB s t = true := by
  unfold wrP at h
  by_cases h1 : vehCode x y cp st en ≠ 0
  · rw [if_pos h1] at h; cases h
  rw [if_neg h1] at h
  by_cases h2 : t.any (fun q => rqE q != 0) = true
  · rw [if_pos h2] at h; cases h
  rw [if_neg h2] at h
  by_cases h3 : chkP l ≠ 0
  · rw [if_pos h3] at h; cases h
  rw [if_neg h3] at h
  by_cases h4 : l.any (fun s => !ptB s t) = true
  · rw [if_pos h4] at h; cases h
  refine ⟨by simpa using h1, fun q hq => ?_, by simpa using h3, fun s hs => ?_⟩
  · by_cases e : rqE q = 0
    · exact e
    · exact absurd (List.any_eq_true.2 ⟨q, hq, by simpa using e⟩) h2
  · cases e : ptB s t with
    | true => rfl
    | false => exact absurd (List.any_eq_true.2 ⟨s, hs, by rw [e]; rfl⟩) h4
theorem vehCode_zero {x y cp st en : Int} (h : vehCode x y cp st en = 0) : 1 ≤ cp ∧ cp ≤ 100000 ∧ 0 ≤ st ∧ st ≤ en ∧ en ≤ 1048576 := by
  unfold vehCode firstV at h
  cases h1 : plB x y <;> rw [h1] at h
  · simp at h
  cases h2 : (decide (1 ≤ cp ∧ cp ≤ 100000) && (decide (0 ≤ st ∧ st ≤ en) && decide (0 ≤ en ∧ en ≤ 1048576))) <;> rw [h2] at h
  · simp at h
  simp only [Bool.and_eq_true, decide_eq_true_eq] at h2
  omega
/-- a stop that has a part: its request is there -/
theorem pt_there {s : Int × Int} {t : List Rq} (h : ptB s t = true) : ∃ n : Nat, s.1 = n ∧ ∃ hn : n < t.length, (ptG s t).s = t[n] 9 := by
  unfold ptB at h
  unfold ptG
  unfold ptOf at h ⊢
  by_cases h1 : s.1 < 0 ∨ (t.length : Int) ≤ s.1
  · rw [if_pos h1] at h; cases h
  · rw [if_neg h1] at h ⊢
    have hn : s.1.toNat < t.length := by omega
    refine ⟨s.1.toNat, by omega, hn, ?_⟩
    by_cases h2 : s.2 = 0
    · rw [if_pos h2, getD_at t hn]; rfl
    · rw [if_neg h2] at h ⊢
      by_cases h3 : s.2 = 1
      · rw [if_pos h3, getD_at t hn]; rfl
      · rw [if_neg h3] at h; cases h
theorem tm_size (a b c : Int) : (Try.prog.info? 85).map (·.size) = some (tmV (a, b, c)).toArray.size := by kernel_rfl
theorem tm_one (x : Int × Int × Int) : ∀ v ∈ tmV x, v.oneCell' = true := by simp [tmV, Value.oneCell']
theorem run_tm (a : Int) (w : World) : (Instr.build 85 #[(0, .int .i64 a)]).run Try.prog w = .ok (.agg (tmV (a, 0, 0)).toArray) w := by kernel_rfl
theorem tm_el : ElT Try.prog 40 85 3 24 := ⟨Try.underlying40, by kernel_rfl, by kernel_rfl, by kernel_rfl, by omega, by omega⟩
theorem rsl_tm (x : Int × Int × Int) (w : World) : (Instr.buildSlice 40 1 #[(0, .agg (tmV x).toArray)]).run Try.prog w = .ok (.slice (some ⟨w.heap.size, 0, none⟩) 1 1) (w.alloc (.cells (tmV x).toArray 85)) := by kernel_rfl
/-- what Times answers -/
def TmPost (w : World) (R : Tms × Int × Int) (e : Ending) (w' : World) : Prop :=
  ∃ p c, e = .returned (.tuple #[.slice p R.1.length c, .int .i64 R.2.1, .int .i64 R.2.2]) ∧ Below w.heap.size w w' ∧ Els w' p 3 (R.1.map tmV) ∧ R.1.length ≤ c ∧ c ≤ 9223372036854775807 ∧ ∀ a, p = some a → w.heap.size ≤ a.block ∧ a.spot = none
theorem tm_none {w w' : World} {k e : Int} {E : Ending} (hE : E = .returned (.tuple #[.slice none 0 0, .int .i64 k, .int .i64 e])) (hb : Below w.heap.size w w') : TmPost w ([], k, e) E w' :=
  ⟨none, 0, hE, hb, ⟨(fun _ => rfl), (fun x hx => by cases hx), by show 0 ≤ _; omega, (fun a ha => by cases ha)⟩, Nat.le_refl _, by omega, fun a ha => by cases ha⟩
end Go.Proofs.Ytpbmeeogledmdae
namespace Go.Proofs.Ytpbmeeogledmdae
open Go.RowKit

theorem wpList_bs1 {P : Program} {ops : Array Oper} {rest : List Oper} {o : Oper} {a : Act} {w : World} {Q : Exit → Act → World → Prop} (hgd : o.guard = none) (t : TypeId) (n i : Nat) (x : Operand) (ho : o.op = .buildSlice t n #[(i, x)])
    (vx : Value) (hx : a.eval x = vx) (v : Value) (w' : World) (hrun : (Instr.buildSlice t n #[(i, vx)]).run P w = .ok v w') (h : wpList P ops Q rest (a.put o.dst v) w') : wpList P ops Q (o :: rest) a w :=
  wpList_bsd hgd hrun ho (by simp only [List.map_toArray, List.map_cons, List.map_nil, hx]) h
theorem own_blk_lt {w : World} {base n k g : Nat} {E : TypeId} {v : Value} {xs : List Value} (h : w.ownsRow base E n v k xs) (hg : v.ownBlock = some g) : base ≤ g ∧ g < w.heap.size := by
  rcases h.2 with ⟨hv, _⟩ | ⟨g', cap, cur, hv, hg', hw, _⟩
  · rw [hv] at hg; cases hg
  · rw [hv] at hg; cases hg; exact ⟨hg', (Array.getElem?_eq_some_iff.1 hw).1⟩
theorem own_cap {w : World} {base n m k c : Nat} {p : Option Addr} {E : TypeId} {xs : List Value} (h : w.ownsRow base E n (.slice p k c) m xs) : c ≤ 9223372036854775807 := by
  rcases h.2 with ⟨hv, _⟩ | ⟨g, cap, cur, hv, hg, hw, hk, hm, _⟩
  · cases hv; omega
  · cases hv; exact Nat.le_trans hm (by decide)
theorem chkP_len {l : List (Int × Int)} (h : chkP l = 0) : l.length ≤ 16 := by
  unfold chkP at h
  by_cases h1 : l.length > 16
  · rw [if_pos h1] at h; cases h
  · omega
theorem tmRun_cons (t : List Rq) (s : Int × Int) (r : List (Int × Int)) (ax ay now : Int) : tmRun t (s :: r) ax ay now = if waB (ptG s t).e (ptG s t).l (now + dsP ax ay (ptG s t).x (ptG s t).y) = true then
      (tmRun t r (ptG s t).x (ptG s t).y (waN (ptG s t).e (ptG s t).l (now + dsP ax ay (ptG s t).x (ptG s t).y) + (ptG s t).s)).map fun q =>
        ((now + dsP ax ay (ptG s t).x (ptG s t).y, waN (ptG s t).e (ptG s t).l (now + dsP ax ay (ptG s t).x (ptG s t).y), waN (ptG s t).e (ptG s t).l (now + dsP ax ay (ptG s t).x (ptG s t).y) + (ptG s t).s) :: q.1, q.2)
    else none := rfl
end Go.Proofs.Ytpbmeeogledmdae
