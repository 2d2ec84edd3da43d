/-
  The document's layer 7: Place, Window.
-/
import Derived.Test.YtcdpiemkbefcoaaTm
namespace Go.Proofs.Ytcdpiemkbefcoaa
open Go.RowKit

theorem Els.part {P : Program} {w : World} {p : Option Addr} {n : Nat} {R : List (List Value)} (h : Els w p n R) {a : Addr} (ha : p = some a) {k : Nat} (hk : k < R.length) (o : Nat) (cs : List Value) (hcs : ∀ j v, cs[j]? = some v → R[k][o + j]? = some v) {ty : TypeId} {d : TypeDesc}
    (hu : P.underlying ty = some d) (hd : (match d with | .struct _ | .array _ _ => true | _ => false) = true) (hi : (P.info? ty).map (·.size) = some cs.length) :
    (loadVar ty ((a.add (k * n)).add o)).run P w = .ok (.agg cs.toArray) w := by
  refine run_loadVar_at w _ ty cs d (fun j v hj => ?_) hu hd hi
  rw [addr_add_add, addr_add_add]
  have := h.cells a ha k _ (o + j) v (List.getElem?_eq_getElem hk) (hcs j v hj)
  exact this
theorem Els.one {w : World} {p : Option Addr} {n : Nat} {R : List (List Value)} (h : Els w p n R) {a : Addr} (ha : p = some a) {k : Nat} (hk : k < R.length) (o : Nat) (v : Value) (hv : R[k][o]? = some v) : w.cell? ((a.add (k * n)).add o) = some v := by
  rw [addr_add_add]
  exact h.cells a ha k _ o v (List.getElem?_eq_getElem hk) hv
theorem pl_size (x y : Int) : (Try.prog.info? 26).map (·.size) = some (#[Value.int .i64 x, Value.int .i64 y] : Array Value).size := by kernel_rfl
theorem wi_size (x y : Int) : (Try.prog.info? 45).map (·.size) = some (#[Value.int .i64 x, Value.int .i64 y] : Array Value).size := by kernel_rfl
theorem run_plZ (w : World) : (Instr.build 26 #[]).run Try.prog w = .ok (.agg #[.int .i64 0, .int .i64 0]) w := by kernel_rfl
theorem run_wiZ (w : World) : (Instr.build 45 #[]).run Try.prog w = .ok (.agg #[.int .i64 0, .int .i64 0]) w := by kernel_rfl

set_option maxHeartbeats 400000 in
set_option maxRecDepth 100000 in
theorem place7_ref (p : Option Addr) (cap : Nat) (t : List Rq) (r k : Int) (w : World) (hE : Els w p 10 (t.map rqV)) :
    Calls Try.prog 81 #[.agg #[.int .i64 r, .int .i64 k], .slice p t.length cap] w fun e w' => e = .returned (.tuple #[.agg #[.int .i64 (ptG (r, k) t).x, .int .i64 (ptG (r, k) t).y], .bool (ptB (r, k) t)]) ∧ Below w.heap.size w w' := by
  have hbig : t.length ≤ 140737488351232 := by simpa using hE.big
  have hG : ptG (r, k) t = (ptOf (r, k) t).getD ptZ := rfl
  have hT : ptB (r, k) t = (ptOf (r, k) t).isSome := rfl
  have hO : ptOf (r, k) t = if r < 0 ∨ (t.length : Int) ≤ r then none
    else if k = 0 then some ⟨t.getD r.toNat rqZ0 0, t.getD r.toNat rqZ0 1, t.getD r.toNat rqZ0 4, t.getD r.toNat rqZ0 5, t.getD r.toNat rqZ0 9⟩
    else if k = 1 then some ⟨t.getD r.toNat rqZ0 2, t.getD r.toNat rqZ0 3, t.getD r.toNat rqZ0 6, t.getD r.toNat rqZ0 7, t.getD r.toNat rqZ0 9⟩ else none := rfl
  generalize ptOf (r, k) t = O at hG hT hO
  generalize ptG (r, k) t = G at hG ⊢
  generalize ptB (r, k) t = T at hT ⊢
  have hnone : Hid (O = none → G = ptZ ∧ T = false) := Lib.hid (fun h => by rw [hG, hT, h]; exact ⟨rfl, rfl⟩)
  have hsome : Hid (∀ x, O = some x → G = x ∧ T = true) := Lib.hid (fun x h => by rw [hG, hT, h]; exact ⟨rfl, rfl⟩)
  replace hO := Lib.hid hO
  replace hE := Lib.hid hE
  clear hG hT
  go_enter Try.func81, Try.ntmps81
  go_upto_region 1 with fail
  refine wp_world' (fun wx => Blk wx w.heap.size #[.int .i64 r, .int .i64 k] 55 ∧ Blk wx (w.heap.size + 1) #[.int .i64 0, .int .i64 0] 26 ∧ Below w.heap.size w wx)
    ⟨(Blk.new w _ _).alloc _, Blk.new' w _ _ _, ((Below.refl _ _).alloc (Nat.le_refl _) _).alloc (by simp) _⟩ ?_
  rintro w1 ⟨hS, hZ, hb⟩
  have k0 : w1.cell? ⟨w.heap.size, 0, none⟩ = some (.int .i64 r) := hS.cell (i := 0) rfl
  have k1 : w1.cell? ⟨w.heap.size, 1, none⟩ = some (.int .i64 k) := hS.cell (i := 1) rfl
  have HZ := Lib.hid hZ
  clear hS hZ
  have hfin : ∀ {X : World} (x y : Int), Mod (· = w.heap.size + 1) w1 X → Below w.heap.size w X := fun x y h => hb.trans (h.below hb.size (fun x hx => by omega))
  by_cases c0 : r < 0
  · obtain ⟨rfl, rfl⟩ := hnone.out (by rw [hO.out, if_pos (.inl c0)])
    clear hO hnone hsome
    go_upto_region 2 with fail
    go_wp2_with (first | (refine wpList_build_v rfl 26 rfl _ (run_plZ _) ?_) | (refine wpList_store_row2 rfl 26 _ _ rfl rfl (w.heap.size + 1) rfl #[.int .i64 0, .int .i64 0] #[.int .i64 0, .int .i64 0] 26 HZ.out rfl rfl (pair_one _ _) (pl_size _ _) ?_; intro wz hBz hmz))
    exact bodyPost_ret (results_cell_tmp rfl _ _ (w.heap.size + 1) _ _ _ _ rfl hBz Try.underlying26 rfl (pl_size _ _)) rfl ⟨rfl, hfin 0 0 hmz⟩
  by_cases c1 : r ≥ (t.length : Int)
  · obtain ⟨rfl, rfl⟩ := hnone.out (by rw [hO.out, if_pos (.inr c1)])
    clear hO hnone hsome
    go_upto_region 2 with fail
    go_wp2_with (first | (refine wpList_build_v rfl 26 rfl _ (run_plZ _) ?_) | (refine wpList_store_row2 rfl 26 _ _ rfl rfl (w.heap.size + 1) rfl #[.int .i64 0, .int .i64 0] #[.int .i64 0, .int .i64 0] 26 HZ.out rfl rfl (pair_one _ _) (pl_size _ _) ?_; intro wz hBz hmz))
    exact bodyPost_ret (results_cell_tmp rfl _ _ (w.heap.size + 1) _ _ _ _ rfl hBz Try.underlying26 rfl (pl_size _ _)) rfl ⟨rfl, hfin 0 0 hmz⟩
  obtain ⟨n, rfl⟩ := Int.eq_ofNat_of_zero_le (show 0 ≤ r by omega)
  have hn : n < t.length := by omega
  have hO2 : O = if k = 0 then some ⟨t[n] 0, t[n] 1, t[n] 4, t[n] 5, t[n] 9⟩ else if k = 1 then some ⟨t[n] 2, t[n] 3, t[n] 6, t[n] 7, t[n] 9⟩ else none := by
    rw [hO.out, if_neg (by omega)]
    simp only [Int.toNat_natCast, getD_at t hn]
  obtain ⟨a, rfl⟩ := hE.out.some_of (k := n) (by simpa using hn)
  have hl0 := Lib.hid ((hE.out.below hb).part (P := Try.prog) (a := a) rfl (k := n) (by simpa using hn) 0 [.int .i64 (t[n] 0), .int .i64 (t[n] 1)] (fun j v h => by rw [List.getElem_map]; match j, h with | 0, h => exact h | 1, h => exact h | j + 2, h => simp at h) (ty := 26) Try.underlying26 rfl (by kernel_rfl))
  have hl2 := Lib.hid ((hE.out.below hb).part (P := Try.prog) (a := a) rfl (k := n) (by simpa using hn) 2 [.int .i64 (t[n] 2), .int .i64 (t[n] 3)] (fun j v h => by rw [List.getElem_map]; match j, h with | 0, h => exact h | 1, h => exact h | j + 2, h => simp at h) (ty := 26) Try.underlying26 rfl (by kernel_rfl))
  generalize t[n] = q at hO2 hl0 hl2
  replace hO2 := Lib.hid hO2
  clear hO
  by_cases e0 : k = 0
  · subst e0
    obtain ⟨rfl, rfl⟩ := hsome.out _ (hO2.out.trans (if_pos rfl))
    clear hO2 hnone hsome
    go_upto_region 4 with fail
    go_wp2_with (first | (refine wpList_load_v rfl 26 _ rfl ((a.add (n * 10)).add 0) rfl _ hl0.out ?_) | (refine wpList_store_row2 rfl 26 _ _ rfl rfl (w.heap.size + 1) rfl #[.int .i64 0, .int .i64 0] #[.int .i64 (q 0), .int .i64 (q 1)] 26 HZ.out rfl rfl (pair_one _ _) (pl_size _ _) ?_; intro wz hBz hmz))
    exact bodyPost_ret (results_cell_tmp rfl _ _ (w.heap.size + 1) _ _ _ _ rfl hBz Try.underlying26 rfl (pl_size _ _)) rfl ⟨rfl, hfin 0 0 hmz⟩
  · by_cases e1 : k = 1
    · subst e1
      obtain ⟨rfl, rfl⟩ := hsome.out _ (hO2.out.trans ((if_neg (by decide)).trans (if_pos rfl)))
      clear hO2 hnone hsome
      go_upto_region 5 with fail
      go_wp2_with (first | (refine wpList_load_v rfl 26 _ rfl ((a.add (n * 10)).add 2) rfl _ hl2.out ?_) | (refine wpList_store_row2 rfl 26 _ _ rfl rfl (w.heap.size + 1) rfl #[.int .i64 0, .int .i64 0] #[.int .i64 (q 2), .int .i64 (q 3)] 26 HZ.out rfl rfl (pair_one _ _) (pl_size _ _) ?_; intro wz hBz hmz))
      exact bodyPost_ret (results_cell_tmp rfl _ _ (w.heap.size + 1) _ _ _ _ rfl hBz Try.underlying26 rfl (pl_size _ _)) rfl ⟨rfl, hfin 0 0 hmz⟩
    · obtain ⟨rfl, rfl⟩ := hnone.out (hO2.out.trans ((if_neg e0).trans (if_neg e1)))
      clear hO2 hnone hsome
      have d0 : (k == 0) = false := beq_eq_false_iff_ne.2 e0
      have d1 : (k == 1) = false := beq_eq_false_iff_ne.2 e1
      have d2 : (k != 0) = true := by rw [bne, d0]; rfl
      have d3 : (k != 1) = true := by rw [bne, d1]; rfl
      go_upto_region 2 with fail
      go_wp2_with (first | (refine wpList_build_v rfl 26 rfl _ (run_plZ _) ?_) | (refine wpList_store_row2 rfl 26 _ _ rfl rfl (w.heap.size + 1) rfl #[.int .i64 0, .int .i64 0] #[.int .i64 0, .int .i64 0] 26 HZ.out rfl rfl (pair_one _ _) (pl_size _ _) ?_; intro wz hBz hmz))
      exact bodyPost_ret (results_cell_tmp rfl _ _ (w.heap.size + 1) _ _ _ _ rfl hBz Try.underlying26 rfl (pl_size _ _)) rfl ⟨rfl, hfin 0 0 hmz⟩
set_option maxHeartbeats 1000000 in
set_option maxRecDepth 100000 in
theorem window7_ref (p : Option Addr) (cap : Nat) (t : List Rq) (r k : Int) (w : World) (hE : Els w p 10 (t.map rqV)) :
    Calls Try.prog 82 #[.agg #[.int .i64 r, .int .i64 k], .slice p t.length cap] w fun e w' => e = .returned (.tuple #[.agg #[.int .i64 (ptG (r, k) t).e, .int .i64 (ptG (r, k) t).l], .bool (ptB (r, k) t)]) ∧ Below w.heap.size w w' := by
  have hbig : t.length ≤ 140737488351232 := by simpa using hE.big
  have hpl := Lib.hid (fun wx (h : Below w.heap.size w wx) => place7_ref p cap t r k wx (hE.below h))
  have hG : ptG (r, k) t = (ptOf (r, k) t).getD ptZ := rfl
  have hT : ptB (r, k) t = (ptOf (r, k) t).isSome := rfl
  have hO : ptOf (r, k) t = if r < 0 ∨ (t.length : Int) ≤ r then none
    else if k = 0 then some ⟨t.getD r.toNat rqZ0 0, t.getD r.toNat rqZ0 1, t.getD r.toNat rqZ0 4, t.getD r.toNat rqZ0 5, t.getD r.toNat rqZ0 9⟩
    else if k = 1 then some ⟨t.getD r.toNat rqZ0 2, t.getD r.toNat rqZ0 3, t.getD r.toNat rqZ0 6, t.getD r.toNat rqZ0 7, t.getD r.toNat rqZ0 9⟩ else none := rfl
  generalize ptOf (r, k) t = O at hG hT hO
  generalize ptG (r, k) t = G at hG hpl ⊢
  generalize ptB (r, k) t = T at hT hpl ⊢
  have hfalse : Hid (T = false → G = ptZ) := Lib.hid (fun h => by
    rw [h] at hT
    cases O with
    | none => rw [hG]; rfl
    | some x => cases hT)
  have htrue : Hid (T = true → O = some G) := Lib.hid (fun h => by
    rw [h] at hT
    cases O with
    | none => cases hT
    | some x => rw [hG]; rfl)
  replace hO := Lib.hid hO
  replace hE := Lib.hid hE
  clear hG hT
  go_enter Try.func82, Try.ntmps82
  go_upto_region 1 with fail
  refine wp_world' (fun wx => Blk wx w.heap.size #[.int .i64 r, .int .i64 k] 55 ∧ Blk wx (w.heap.size + 1) #[.int .i64 0, .int .i64 0] 45 ∧ Below w.heap.size w wx)
    ⟨(Blk.new w _ _).alloc _, Blk.new' w _ _ _, ((Below.refl _ _).alloc (Nat.le_refl _) _).alloc (by simp) _⟩ ?_
  rintro w1 ⟨hS, hZ, hb⟩
  have hls := Lib.hid (run_load_row' (P := Try.prog) w1 w.heap.size 55 #[.int .i64 r, .int .i64 k] 55 _ hS Try.underlying55 rfl (by kernel_rfl))
  have HS := Lib.hid hS
  have HZ := Lib.hid hZ
  clear hS hZ
  go_wp2_with (refine wpList_load_v rfl 55 _ rfl ⟨w.heap.size, 0, none⟩ rfl _ hls.out ?_)
  refine (hpl.out _ hb).mono ?_
  rintro e w2 ⟨rfl, hb2⟩
  have HS2 := Lib.hid (HS.out.mod ((Mod.refl (fun _ => False) _).after hb2) (fun h => h))
  have HZ2 := Lib.hid (HZ.out.mod ((Mod.refl (fun _ => False) _).after hb2) (fun h => h))
  replace hb2 := hb.trans (hb2.mono hb.size)
  clear HS HZ hb hls hpl
  go_upto_region 2 with (refine wpList_store_new rfl 26 _ _ rfl rfl rfl _ #[.int .i64 G.x, .int .i64 G.y] _ rfl rfl (pair_one _ _) (pl_size _ _) ?_)
  refine wp_world' (fun wx => Blk wx w.heap.size #[.int .i64 r, .int .i64 k] 55 ∧ Blk wx (w.heap.size + 1) #[.int .i64 0, .int .i64 0] 45 ∧ Below w.heap.size w wx)
    ⟨HS2.out.alloc _, HZ2.out.alloc _, hb2.alloc hb2.size _⟩ ?_
  rintro w3 ⟨hS, hZ, hb⟩
  have k0 : w3.cell? ⟨w.heap.size, 0, none⟩ = some (.int .i64 r) := hS.cell (i := 0) rfl
  have k1 : w3.cell? ⟨w.heap.size, 1, none⟩ = some (.int .i64 k) := hS.cell (i := 1) rfl
  have HZ := Lib.hid hZ
  clear hS hZ HS2 HZ2 hb2
  have hfin : ∀ {X : World}, Mod (· = w.heap.size + 1) w3 X → Below w.heap.size w X := fun h => hb.trans (h.below hb.size (fun x hx => by omega))
  cases T with
  | false =>
    obtain rfl := hfalse.out rfl
    clear hO hfalse htrue
    go_wp2_with (first | (refine wpList_build_v rfl 45 rfl _ (run_wiZ _) ?_) | (refine wpList_store_row2 rfl 45 _ _ rfl rfl (w.heap.size + 1) rfl #[.int .i64 0, .int .i64 0] #[.int .i64 0, .int .i64 0] 45 HZ.out rfl rfl (pair_one _ _) (wi_size _ _) ?_; intro wz hBz hmz))
    exact bodyPost_ret (results_cell_tmp rfl _ _ (w.heap.size + 1) _ _ _ _ rfl hBz Try.underlying45 rfl (wi_size _ _)) rfl ⟨rfl, hfin hmz⟩
  | true =>
    have hG := (htrue.out rfl).symm.trans hO.out
    by_cases c0 : r < 0 ∨ (t.length : Int) ≤ r
    · rw [if_pos c0] at hG; cases hG
    · rw [if_neg c0] at hG
      obtain ⟨n, rfl⟩ := Int.eq_ofNat_of_zero_le (show 0 ≤ r by omega)
      have hn : n < t.length := by omega
      simp only [Int.toNat_natCast, getD_at t hn] at hG
      obtain ⟨a, rfl⟩ := hE.out.some_of (k := n) (by simpa using hn)
      have hl4 := Lib.hid ((hE.out.below hb).part (P := Try.prog) (a := a) rfl (k := n) (by simpa using hn) 4 [.int .i64 (t[n] 4), .int .i64 (t[n] 5)] (fun j v h => by rw [List.getElem_map]; match j, h with | 0, h => exact h | 1, h => exact h | j + 2, h => simp at h) (ty := 45) Try.underlying45 rfl (by kernel_rfl))
      have hl6 := Lib.hid ((hE.out.below hb).part (P := Try.prog) (a := a) rfl (k := n) (by simpa using hn) 6 [.int .i64 (t[n] 6), .int .i64 (t[n] 7)] (fun j v h => by rw [List.getElem_map]; match j, h with | 0, h => exact h | 1, h => exact h | j + 2, h => simp at h) (ty := 45) Try.underlying45 rfl (by kernel_rfl))
      have hnI : (n : Int) < t.length := by omega
      generalize t[n] = q at hG hl4 hl6
      clear hO hfalse htrue c0
      by_cases e0 : k = 0
      · subst e0
        rw [if_pos rfl] at hG
        obtain rfl := Option.some.inj hG
        go_upto_region 5 with fail
        go_wp2_with (first | (refine wpList_load_v rfl 45 _ rfl ((a.add (n * 10)).add 4) rfl _ hl4.out ?_) | (refine wpList_store_row2 rfl 45 _ _ rfl rfl (w.heap.size + 1) rfl #[.int .i64 0, .int .i64 0] #[.int .i64 (q 4), .int .i64 (q 5)] 45 HZ.out rfl rfl (pair_one _ _) (wi_size _ _) ?_; intro wz hBz hmz))
        exact bodyPost_ret (results_cell_tmp rfl _ _ (w.heap.size + 1) _ _ _ _ rfl hBz Try.underlying45 rfl (wi_size _ _)) rfl ⟨rfl, hfin hmz⟩
      · rw [if_neg e0] at hG
        by_cases e1 : k = 1
        · subst e1
          rw [if_pos rfl] at hG
          obtain rfl := Option.some.inj hG
          go_upto_region 6 with fail
          go_wp2_with (first | (refine wpList_load_v rfl 45 _ rfl ((a.add (n * 10)).add 6) rfl _ hl6.out ?_) | (refine wpList_store_row2 rfl 45 _ _ rfl rfl (w.heap.size + 1) rfl #[.int .i64 0, .int .i64 0] #[.int .i64 (q 6), .int .i64 (q 7)] 45 HZ.out rfl rfl (pair_one _ _) (wi_size _ _) ?_; intro wz hBz hmz))
          exact bodyPost_ret (results_cell_tmp rfl _ _ (w.heap.size + 1) _ _ _ _ rfl hBz Try.underlying45 rfl (wi_size _ _)) rfl ⟨rfl, hfin hmz⟩
        · rw [if_neg e1] at hG
          cases hG
end Go.Proofs.Ytcdpiemkbefcoaa
