/-
  The row 'DealNew': a pack of the texts Tm, pruned to what the row uses.
-/
import Derived.Test.YtkaoflndbcfodaaGreatDealNewQ04
import Derived.Test.YtkaoflndbcfodaaGreatDealNewQ06
namespace Go.Proofs.YtkaoflndbcfodaaGreat
set_option maxHeartbeats 8000000
set_option maxRecDepth 100000
section
section
open Go.RowKit
abbrev Rq:=Nat→Int
def rqV (q:Rq):List Value:=[.int .i64 (q 0),.int .i64 (q 1),.int .i64 (q 2),.int .i64 (q 3),.int .i64 (q 4),.int .i64 (q 5),.int .i64 (q 6),.int .i64 (q 7),.int .i64 (q 8),.int .i64 (q 9)]
def rqE (q:Rq):Int:=rqCode (q 0) (q 1) (q 2) (q 3) (q 4) (q 5) (q 6) (q 7) (q 8) (q 9)
theorem rqV_one (q:Rq):∀ v ∈ (rqV q).toArray.toList,v.oneCell' = true:=by simp [rqV,Value.oneCell']
theorem rqV_len (t:List Rq):∀ x ∈ t.map rqV,x.length = 10:=by
 intro x hx
 obtain ⟨s,_,rfl⟩:=List.mem_map.1 hx
 rfl
def rqZ0:Rq:=fun _=>0
structure Pt where
 x:Int
 y:Int
 e:Int
 l:Int
 s:Int
def ptOf (s:Int × Int) (t:List Rq):Option Pt:=
 if s.1 < 0∨(t.length:Int)≤s.1 then none
 else if s.2 = 0 then some ⟨t.getD s.1.toNat rqZ0 0,t.getD s.1.toNat rqZ0 1,t.getD s.1.toNat rqZ0 4,t.getD s.1.toNat rqZ0 5,t.getD s.1.toNat rqZ0 9⟩
 else if s.2 = 1 then some ⟨t.getD s.1.toNat rqZ0 2,t.getD s.1.toNat rqZ0 3,t.getD s.1.toNat rqZ0 6,t.getD s.1.toNat rqZ0 7,t.getD s.1.toNat rqZ0 9⟩
 else none
def ptZ:Pt:=⟨0,0,0,0,0⟩
def Pt.row (p:Pt):Array Value:=#[.int .i64 p.x,.int .i64 p.y,.int .i64 p.e,.int .i64 p.l,.int .i64 p.s]
def ptG (s:Int × Int) (t:List Rq):Pt:=(ptOf s t).getD ptZ
def ptB (s:Int × Int) (t:List Rq):Bool:=(ptOf s t).isSome
theorem pt_size (p:Pt):(Tryz.prog.info? 146).map (·.size) = some p.row.size:=by kernel_rfl
theorem pt_one (p:Pt):∀ v ∈ p.row.toList,v.oneCell' = true:=by simp [Pt.row,Value.oneCell']
theorem run_ptZ (w:World):(Instr.build 146 #[]).run Tryz.prog w = .ok (.agg ptZ.row) w:=by kernel_rfl
theorem rq_part {wx:World} {g:Nat} {q:Rq} (h:Blk wx g (rqV q).toArray 55):
  (loadVar 53 ⟨g,0,none⟩).run Tryz.prog wx = .ok (.agg #[.int .i64 (q 0),.int .i64 (q 1)]) wx∧(loadVar 53 ⟨g,2,none⟩).run Tryz.prog wx = .ok (.agg #[.int .i64 (q 2),.int .i64 (q 3)]) wx∧
  (loadVar 51 ⟨g,4,none⟩).run Tryz.prog wx = .ok (.agg #[.int .i64 (q 4),.int .i64 (q 5)]) wx∧(loadVar 51 ⟨g,6,none⟩).run Tryz.prog wx = .ok (.agg #[.int .i64 (q 6),.int .i64 (q 7)]) wx:=by
 have hs:(rqV q).toArray.size = 10:=rfl
 refine ⟨?_,?_,?_,?_⟩
 ·rw [load_part (P:=Tryz.prog) wx g (rqV q).toArray 55 h 0 2 (by rw [hs]; omega) 53 _ Tryz.underlying53 rfl (by kernel_rfl)]; rfl
 ·rw [load_part (P:=Tryz.prog) wx g (rqV q).toArray 55 h 2 2 (by rw [hs]; omega) 53 _ Tryz.underlying53 rfl (by kernel_rfl)]; rfl
 ·rw [load_part (P:=Tryz.prog) wx g (rqV q).toArray 55 h 4 2 (by rw [hs]; omega) 51 _ Tryz.underlying51 rfl (by kernel_rfl)]; rfl
 ·rw [load_part (P:=Tryz.prog) wx g (rqV q).toArray 55 h 6 2 (by rw [hs]; omega) 51 _ Tryz.underlying51 rfl (by kernel_rfl)]; rfl
theorem getD_at (t:List Rq) {n:Nat} (h:n < t.length):t.getD n rqZ0 = t[n]:=by simp [List.getD_eq_getElem?_getD,h]
theorem of_calls (p:Option Addr) (cap:Nat) (t:List Rq) (r k:Int) (w:World) (hE:Els w p 10 (t.map rqV)):
  Calls Tryz.prog 90 #[.agg #[.int .i64 r,.int .i64 k],.slice p t.length cap] w fun e w'=>e = .returned (.tuple #[.agg (ptG (r,k) t).row,.bool (ptB (r,k) t)])∧Below w.heap.size w w':=by
 have hbig:t.length≤140737488351232:=by simpa using hE.big
 have hG:ptG (r,k) t = (ptOf (r,k) t).getD ptZ:=rfl
 have hT:ptB (r,k) t = (ptOf (r,k) t).isSome:=rfl
 have hO:ptOf (r,k) t = if r < 0∨(t.length:Int)≤r then none
  else if k = 0 then some ⟨t.getD r.toNat rqZ0 0,t.getD r.toNat rqZ0 1,t.getD r.toNat rqZ0 4,t.getD r.toNat rqZ0 5,t.getD r.toNat rqZ0 9⟩
  else if k = 1 then some ⟨t.getD r.toNat rqZ0 2,t.getD r.toNat rqZ0 3,t.getD r.toNat rqZ0 6,t.getD r.toNat rqZ0 7,t.getD r.toNat rqZ0 9⟩ else none:=rfl
 generalize ptOf (r,k) t = O at hG hT hO
 generalize ptG (r,k) t = G at hG ⊢
 generalize ptB (r,k) t = T at hT ⊢
 replace hG:=Lib.hid hG
 replace hT:=Lib.hid hT
 replace hO:=Lib.hid hO
 replace hE:=Lib.hid hE
 have hnone:Hid (O = none→G = ptZ∧T = false):=Lib.hid (fun h=>by rw [hG.out,hT.out,h]; exact ⟨rfl,rfl⟩)
 have hsome:Hid (∀ x,O = some x→G = x∧T = true):=Lib.hid (fun x h=>by rw [hG.out,hT.out,h]; exact ⟨rfl,rfl⟩)
 clear hG hT
 go_enter Tryz.func90,Tryz.ntmps90
 go_upto_region 1 with fail
 refine wp_world' (fun wx=>Blk wx w.heap.size #[.int .i64 r,.int .i64 k] 125∧Blk wx (w.heap.size + 1) ptZ.row 146∧Below w.heap.size w wx)
  ⟨(Blk.new w _ _).alloc _,Blk.new' w _ _ _,((Below.refl _ _).alloc (Nat.le_refl _) _).alloc (by simp) _⟩ ?_
 rintro w1 ⟨hS,hZ,hb⟩
 have k0:w1.cell? ⟨w.heap.size,0,none⟩ = some (.int .i64 r):=hS.cell (i:=0) rfl
 have k1:w1.cell? ⟨w.heap.size,1,none⟩ = some (.int .i64 k):=hS.cell (i:=1) rfl
 have HZ:=Lib.hid hZ
 have HS:=Lib.hid hS
 by_cases c0:r < 0
 ·obtain ⟨rfl,rfl⟩:=hnone.out (by rw [hO.out,if_pos (.inl c0)])
  clear hO hnone hsome hS hZ
  go_wp2_with (first | (refine wpList_build_v rfl 146 rfl _ (run_ptZ _) ?_) | (refine wpList_store_row2 rfl 146 _ _ rfl rfl (w.heap.size + 1) rfl ptZ.row ptZ.row 146 HZ.out rfl rfl (pt_one _) (pt_size _) ?_; intro wz hBz hmz))
  exact bodyPost_ret (results_cell_tmp rfl _ _ (w.heap.size + 1) _ _ _ _ rfl hBz Tryz.underlying146 rfl (pt_size _)) rfl ⟨rfl,hb.trans (hmz.below hb.size (fun x hx=>by omega))⟩
 by_cases c1:r ≥ (t.length:Int)
 ·obtain ⟨rfl,rfl⟩:=hnone.out (by rw [hO.out,if_pos (.inr c1)])
  clear hO hnone hsome hS hZ
  go_wp2_with (first | (refine wpList_build_v rfl 146 rfl _ (run_ptZ _) ?_) | (refine wpList_store_row2 rfl 146 _ _ rfl rfl (w.heap.size + 1) rfl ptZ.row ptZ.row 146 HZ.out rfl rfl (pt_one _) (pt_size _) ?_; intro wz hBz hmz))
  exact bodyPost_ret (results_cell_tmp rfl _ _ (w.heap.size + 1) _ _ _ _ rfl hBz Tryz.underlying146 rfl (pt_size _)) rfl ⟨rfl,hb.trans (hmz.below hb.size (fun x hx=>by omega))⟩
 obtain ⟨n,rfl⟩:=Int.eq_ofNat_of_zero_le (show 0≤r by omega)
 have hn:n < t.length:=by omega
 have hO2:O = if k = 0 then some ⟨t[n] 0,t[n] 1,t[n] 4,t[n] 5,t[n] 9⟩ else if k = 1 then some ⟨t[n] 2,t[n] 3,t[n] 6,t[n] 7,t[n] 9⟩ else none:=by
  rw [hO.out,if_neg (by omega)]
  simp only [Int.toNat_natCast,getD_at t hn]
 obtain ⟨a,rfl⟩:=hE.out.some_of (k:=n) (by simpa using hn)
 have hla:=Lib.hid ((hE.out.below hb).load (P:=Tryz.prog) (a:=a) rfl (k:=n) (by simpa using hn) (ty:=55) Tryz.underlying55 rfl (by kernel_rfl))
 rw [List.getElem_map] at hla
 generalize t[n] = q at hO2 hla
 replace hO2:=Lib.hid hO2
 clear hO hS hZ
 go_upto_region 4 with (first | (refine wpList_load_v rfl 55 _ rfl (a.add (n * 10)) rfl _ hla.out ?_) | (refine wpList_store_new rfl 55 _ _ rfl rfl rfl _ (rqV q).toArray _ rfl rfl (rqV_one _) (by kernel_rfl) ?_))
 refine wp_world' (fun wx=>Blk wx w.heap.size #[.int .i64 (n:Int),.int .i64 k] 125∧Blk wx (w.heap.size + 1) ptZ.row 146∧Blk wx w1.heap.size (rqV q).toArray 55∧Below w.heap.size w wx)
  ⟨HS.out.alloc _,HZ.out.alloc _,Blk.new _ _ _,hb.alloc hb.size _⟩ ?_
 rintro w2 ⟨hS,hZ,hQ,hb2⟩
 clear HZ HS k0 k1 hb hla
 generalize w1.heap.size = g6 at *
 have k1:w2.cell? ⟨w.heap.size,1,none⟩ = some (.int .i64 k):=hS.cell (i:=1) rfl
 have k9:w2.cell? ⟨g6,9,none⟩ = some (.int .i64 (q 9)):=hQ.cell (i:=9) rfl
 have hq:=Lib.hid (rq_part hQ)
 have HZ:=Lib.hid hZ
 clear hS hZ hQ
 by_cases e0:k = 0
 ·subst e0
  obtain ⟨rfl,rfl⟩:=hsome.out _ (hO2.out.trans (if_pos rfl))
  clear hO2 hnone hsome
  go_wp2_with (first | (refine wpList_load_v rfl 53 _ rfl ⟨g6,0,none⟩ rfl _ hq.out.1 ?_) | (refine wpList_load_v rfl 51 _ rfl ⟨g6,4,none⟩ rfl _ hq.out.2.2.1 ?_) | (refine wpList_buildn_v rfl 146 _ rfl #[(0,.agg #[.int .i64 (q 0),.int .i64 (q 1)]),(1,.agg #[.int .i64 (q 4),.int .i64 (q 5)]),(2,.int .i64 (q 9))] rfl _ (run_pt _ _ _ _ _ _) ?_) | (refine wpList_store_row2 rfl 146 _ _ rfl rfl (w.heap.size + 1) rfl ptZ.row (Pt.mk (q 0) (q 1) (q 4) (q 5) (q 9)).row 146 HZ.out rfl rfl (pt_one _) (pt_size _) ?_; intro wz hBz hmz))
  exact bodyPost_ret (results_cell_tmp rfl _ _ (w.heap.size + 1) _ _ _ _ rfl hBz Tryz.underlying146 rfl (pt_size _)) rfl ⟨rfl,hb2.trans (hmz.below hb2.size (fun x hx=>by omega))⟩
 ·by_cases e1:k = 1
  ·subst e1
   obtain ⟨rfl,rfl⟩:=hsome.out _ (hO2.out.trans ((if_neg (by decide)).trans (if_pos rfl)))
   clear hO2 hnone hsome
   go_wp2_with (first | (refine wpList_load_v rfl 53 _ rfl ⟨g6,2,none⟩ rfl _ hq.out.2.1 ?_) | (refine wpList_load_v rfl 51 _ rfl ⟨g6,6,none⟩ rfl _ hq.out.2.2.2 ?_) | (refine wpList_buildn_v rfl 146 _ rfl #[(0,.agg #[.int .i64 (q 2),.int .i64 (q 3)]),(1,.agg #[.int .i64 (q 6),.int .i64 (q 7)]),(2,.int .i64 (q 9))] rfl _ (run_pt _ _ _ _ _ _) ?_) | (refine wpList_store_row2 rfl 146 _ _ rfl rfl (w.heap.size + 1) rfl ptZ.row (Pt.mk (q 2) (q 3) (q 6) (q 7) (q 9)).row 146 HZ.out rfl rfl (pt_one _) (pt_size _) ?_; intro wz hBz hmz))
   exact bodyPost_ret (results_cell_tmp rfl _ _ (w.heap.size + 1) _ _ _ _ rfl hBz Tryz.underlying146 rfl (pt_size _)) rfl ⟨rfl,hb2.trans (hmz.below hb2.size (fun x hx=>by omega))⟩
  ·obtain ⟨rfl,rfl⟩:=hnone.out (hO2.out.trans ((if_neg e0).trans (if_neg e1)))
   clear hO2 hnone hsome
   go_wp2_with (first | (refine wpList_build_v rfl 146 rfl _ (run_ptZ _) ?_) | (refine wpList_store_row2 rfl 146 _ _ rfl rfl (w.heap.size + 1) rfl ptZ.row ptZ.row 146 HZ.out rfl rfl (pt_one _) (pt_size _) ?_; intro wz hBz hmz))
   exact bodyPost_ret (results_cell_tmp rfl _ _ (w.heap.size + 1) _ _ _ _ rfl hBz Tryz.underlying146 rfl (pt_size _)) rfl ⟨rfl,hb2.trans (hmz.below hb2.size (fun x hx=>by omega))⟩
end
section
open Go.RowKit
theorem Els.part {P:Program} {w:World} {p:Option Addr} {n:Nat} {R:List (List Value)} (h:Els w p n R) {a:Addr} (ha:p = some a) {k:Nat} (hk:k < R.length) (o:Nat) (cs:List Value) (hcs:∀ j v,cs[j]? = some v→R[k][o + j]? = some v) {ty:TypeId} {d:TypeDesc}
  (hu:P.underlying ty = some d) (hd:(match d with | .struct _ | .array _ _=>true | _=>false) = true) (hi:(P.info? ty).map (·.size) = some cs.length):
  (loadVar ty ((a.add (k * n)).add o)).run P w = .ok (.agg cs.toArray) w:=by
 refine run_loadVar_at w _ ty cs d (fun j v hj=>?_) hu hd hi
 rw [addr_add_add,addr_add_add]
 have:=h.cells a ha k _ (o + j) v (List.getElem?_eq_getElem hk) (hcs j v hj)
 exact this
theorem Els.one {w:World} {p:Option Addr} {n:Nat} {R:List (List Value)} (h:Els w p n R) {a:Addr} (ha:p = some a) {k:Nat} (hk:k < R.length) (o:Nat) (v:Value) (hv:R[k][o]? = some v):w.cell? ((a.add (k * n)).add o) = some v:=by
 rw [addr_add_add]
 exact h.cells a ha k _ o v (List.getElem?_eq_getElem hk) hv
theorem pl_size (x y:Int):(Tryz.prog.info? 53).map (·.size) = some (#[Value.int .i64 x,Value.int .i64 y]:Array Value).size:=by kernel_rfl
theorem wi_size (x y:Int):(Tryz.prog.info? 51).map (·.size) = some (#[Value.int .i64 x,Value.int .i64 y]:Array Value).size:=by kernel_rfl
theorem run_plZ (w:World):(Instr.build 53 #[]).run Tryz.prog w = .ok (.agg #[.int .i64 0,.int .i64 0]) w:=by kernel_rfl
theorem run_wiZ (w:World):(Instr.build 51 #[]).run Tryz.prog w = .ok (.agg #[.int .i64 0,.int .i64 0]) w:=by kernel_rfl
theorem place7_ref (p:Option Addr) (cap:Nat) (t:List Rq) (r k:Int) (w:World) (hE:Els w p 10 (t.map rqV)):
  Calls Tryz.prog 103 #[.agg #[.int .i64 r,.int .i64 k],.slice p t.length cap] w fun e w'=>e = .returned (.tuple #[.agg #[.int .i64 (ptG (r,k) t).x,.int .i64 (ptG (r,k) t).y],.bool (ptB (r,k) t)])∧Below w.heap.size w w':=by
 have hbig:t.length≤140737488351232:=by simpa using hE.big
 have hG:ptG (r,k) t = (ptOf (r,k) t).getD ptZ:=rfl
 have hT:ptB (r,k) t = (ptOf (r,k) t).isSome:=rfl
 have hO:ptOf (r,k) t = if r < 0∨(t.length:Int)≤r then none
  else if k = 0 then some ⟨t.getD r.toNat rqZ0 0,t.getD r.toNat rqZ0 1,t.getD r.toNat rqZ0 4,t.getD r.toNat rqZ0 5,t.getD r.toNat rqZ0 9⟩
  else if k = 1 then some ⟨t.getD r.toNat rqZ0 2,t.getD r.toNat rqZ0 3,t.getD r.toNat rqZ0 6,t.getD r.toNat rqZ0 7,t.getD r.toNat rqZ0 9⟩ else none:=rfl
 generalize ptOf (r,k) t = O at hG hT hO
 generalize ptG (r,k) t = G at hG ⊢
 generalize ptB (r,k) t = T at hT ⊢
 have hnone:Hid (O = none→G = ptZ∧T = false):=Lib.hid (fun h=>by rw [hG,hT,h]; exact ⟨rfl,rfl⟩)
 have hsome:Hid (∀ x,O = some x→G = x∧T = true):=Lib.hid (fun x h=>by rw [hG,hT,h]; exact ⟨rfl,rfl⟩)
 replace hO:=Lib.hid hO
 replace hE:=Lib.hid hE
 clear hG hT
 go_enter Tryz.func103,Tryz.ntmps103
 go_upto_region 1 with fail
 refine wp_world' (fun wx=>Blk wx w.heap.size #[.int .i64 r,.int .i64 k] 125∧Blk wx (w.heap.size + 1) #[.int .i64 0,.int .i64 0] 53∧Below w.heap.size w wx)
  ⟨(Blk.new w _ _).alloc _,Blk.new' w _ _ _,((Below.refl _ _).alloc (Nat.le_refl _) _).alloc (by simp) _⟩ ?_
 rintro w1 ⟨hS,hZ,hb⟩
 have k0:w1.cell? ⟨w.heap.size,0,none⟩ = some (.int .i64 r):=hS.cell (i:=0) rfl
 have k1:w1.cell? ⟨w.heap.size,1,none⟩ = some (.int .i64 k):=hS.cell (i:=1) rfl
 have HZ:=Lib.hid hZ
 clear hS hZ
 have hfin:∀ {X:World} (x y:Int),Mod (· = w.heap.size + 1) w1 X→Below w.heap.size w X:=fun x y h=>hb.trans (h.below hb.size (fun x hx=>by omega))
 by_cases c0:r < 0
 ·obtain ⟨rfl,rfl⟩:=hnone.out (by rw [hO.out,if_pos (.inl c0)])
  clear hO hnone hsome
  go_upto_region 2 with fail
  go_wp2_with (first | (refine wpList_build_v rfl 53 rfl _ (run_plZ _) ?_) | (refine wpList_store_row2 rfl 53 _ _ rfl rfl (w.heap.size + 1) rfl #[.int .i64 0,.int .i64 0] #[.int .i64 0,.int .i64 0] 53 HZ.out rfl rfl (pair_one _ _) (pl_size _ _) ?_; intro wz hBz hmz))
  exact bodyPost_ret (results_cell_tmp rfl _ _ (w.heap.size + 1) _ _ _ _ rfl hBz Tryz.underlying53 rfl (pl_size _ _)) rfl ⟨rfl,hfin 0 0 hmz⟩
 by_cases c1:r ≥ (t.length:Int)
 ·obtain ⟨rfl,rfl⟩:=hnone.out (by rw [hO.out,if_pos (.inr c1)])
  clear hO hnone hsome
  go_upto_region 2 with fail
  go_wp2_with (first | (refine wpList_build_v rfl 53 rfl _ (run_plZ _) ?_) | (refine wpList_store_row2 rfl 53 _ _ rfl rfl (w.heap.size + 1) rfl #[.int .i64 0,.int .i64 0] #[.int .i64 0,.int .i64 0] 53 HZ.out rfl rfl (pair_one _ _) (pl_size _ _) ?_; intro wz hBz hmz))
  exact bodyPost_ret (results_cell_tmp rfl _ _ (w.heap.size + 1) _ _ _ _ rfl hBz Tryz.underlying53 rfl (pl_size _ _)) rfl ⟨rfl,hfin 0 0 hmz⟩
 obtain ⟨n,rfl⟩:=Int.eq_ofNat_of_zero_le (show 0≤r by omega)
 have hn:n < t.length:=by omega
 have hO2:O = if k = 0 then some ⟨t[n] 0,t[n] 1,t[n] 4,t[n] 5,t[n] 9⟩ else if k = 1 then some ⟨t[n] 2,t[n] 3,t[n] 6,t[n] 7,t[n] 9⟩ else none:=by
  rw [hO.out,if_neg (by omega)]
  simp only [Int.toNat_natCast,getD_at t hn]
 obtain ⟨a,rfl⟩:=hE.out.some_of (k:=n) (by simpa using hn)
 have hl0:=Lib.hid ((hE.out.below hb).part (P:=Tryz.prog) (a:=a) rfl (k:=n) (by simpa using hn) 0 [.int .i64 (t[n] 0),.int .i64 (t[n] 1)] (fun j v h=>by rw [List.getElem_map]; match j,h with | 0,h=>exact h | 1,h=>exact h | j + 2,h=>simp at h) (ty:=53) Tryz.underlying53 rfl (by kernel_rfl))
 have hl2:=Lib.hid ((hE.out.below hb).part (P:=Tryz.prog) (a:=a) rfl (k:=n) (by simpa using hn) 2 [.int .i64 (t[n] 2),.int .i64 (t[n] 3)] (fun j v h=>by rw [List.getElem_map]; match j,h with | 0,h=>exact h | 1,h=>exact h | j + 2,h=>simp at h) (ty:=53) Tryz.underlying53 rfl (by kernel_rfl))
 generalize t[n] = q at hO2 hl0 hl2
 replace hO2:=Lib.hid hO2
 clear hO
 by_cases e0:k = 0
 ·subst e0
  obtain ⟨rfl,rfl⟩:=hsome.out _ (hO2.out.trans (if_pos rfl))
  clear hO2 hnone hsome
  go_upto_region 4 with fail
  go_wp2_with (first | (refine wpList_load_v rfl 53 _ rfl ((a.add (n * 10)).add 0) rfl _ hl0.out ?_) | (refine wpList_store_row2 rfl 53 _ _ rfl rfl (w.heap.size + 1) rfl #[.int .i64 0,.int .i64 0] #[.int .i64 (q 0),.int .i64 (q 1)] 53 HZ.out rfl rfl (pair_one _ _) (pl_size _ _) ?_; intro wz hBz hmz))
  exact bodyPost_ret (results_cell_tmp rfl _ _ (w.heap.size + 1) _ _ _ _ rfl hBz Tryz.underlying53 rfl (pl_size _ _)) rfl ⟨rfl,hfin 0 0 hmz⟩
 ·by_cases e1:k = 1
  ·subst e1
   obtain ⟨rfl,rfl⟩:=hsome.out _ (hO2.out.trans ((if_neg (by decide)).trans (if_pos rfl)))
   clear hO2 hnone hsome
   go_upto_region 5 with fail
   go_wp2_with (first | (refine wpList_load_v rfl 53 _ rfl ((a.add (n * 10)).add 2) rfl _ hl2.out ?_) | (refine wpList_store_row2 rfl 53 _ _ rfl rfl (w.heap.size + 1) rfl #[.int .i64 0,.int .i64 0] #[.int .i64 (q 2),.int .i64 (q 3)] 53 HZ.out rfl rfl (pair_one _ _) (pl_size _ _) ?_; intro wz hBz hmz))
   exact bodyPost_ret (results_cell_tmp rfl _ _ (w.heap.size + 1) _ _ _ _ rfl hBz Tryz.underlying53 rfl (pl_size _ _)) rfl ⟨rfl,hfin 0 0 hmz⟩
  ·obtain ⟨rfl,rfl⟩:=hnone.out (hO2.out.trans ((if_neg e0).trans (if_neg e1)))
   clear hO2 hnone hsome
   have d0:(k == 0) = false:=beq_eq_false_iff_ne.2 e0
   have d1:(k == 1) = false:=beq_eq_false_iff_ne.2 e1
   have d2:(k != 0) = true:=by rw [bne,d0]; rfl
   have d3:(k != 1) = true:=by rw [bne,d1]; rfl
   go_upto_region 2 with fail
   go_wp2_with (first | (refine wpList_build_v rfl 53 rfl _ (run_plZ _) ?_) | (refine wpList_store_row2 rfl 53 _ _ rfl rfl (w.heap.size + 1) rfl #[.int .i64 0,.int .i64 0] #[.int .i64 0,.int .i64 0] 53 HZ.out rfl rfl (pair_one _ _) (pl_size _ _) ?_; intro wz hBz hmz))
   exact bodyPost_ret (results_cell_tmp rfl _ _ (w.heap.size + 1) _ _ _ _ rfl hBz Tryz.underlying53 rfl (pl_size _ _)) rfl ⟨rfl,hfin 0 0 hmz⟩
theorem window7_ref (p:Option Addr) (cap:Nat) (t:List Rq) (r k:Int) (w:World) (hE:Els w p 10 (t.map rqV)):
  Calls Tryz.prog 104 #[.agg #[.int .i64 r,.int .i64 k],.slice p t.length cap] w fun e w'=>e = .returned (.tuple #[.agg #[.int .i64 (ptG (r,k) t).e,.int .i64 (ptG (r,k) t).l],.bool (ptB (r,k) t)])∧Below w.heap.size w w':=by
 have hbig:t.length≤140737488351232:=by simpa using hE.big
 have hpl:=Lib.hid (fun wx (h:Below w.heap.size w wx)=>place7_ref p cap t r k wx (hE.below h))
 have hG:ptG (r,k) t = (ptOf (r,k) t).getD ptZ:=rfl
 have hT:ptB (r,k) t = (ptOf (r,k) t).isSome:=rfl
 have hO:ptOf (r,k) t = if r < 0∨(t.length:Int)≤r then none
  else if k = 0 then some ⟨t.getD r.toNat rqZ0 0,t.getD r.toNat rqZ0 1,t.getD r.toNat rqZ0 4,t.getD r.toNat rqZ0 5,t.getD r.toNat rqZ0 9⟩
  else if k = 1 then some ⟨t.getD r.toNat rqZ0 2,t.getD r.toNat rqZ0 3,t.getD r.toNat rqZ0 6,t.getD r.toNat rqZ0 7,t.getD r.toNat rqZ0 9⟩ else none:=rfl
 generalize ptOf (r,k) t = O at hG hT hO
 generalize ptG (r,k) t = G at hG hpl ⊢
 generalize ptB (r,k) t = T at hT hpl ⊢
 have hfalse:Hid (T = false→G = ptZ):=Lib.hid (fun h=>by
  rw [h] at hT
  cases O with
  | none=>rw [hG]; rfl
  | some x=>cases hT)
 have htrue:Hid (T = true→O = some G):=Lib.hid (fun h=>by
  rw [h] at hT
  cases O with
  | none=>cases hT
  | some x=>rw [hG]; rfl)
 replace hO:=Lib.hid hO
 replace hE:=Lib.hid hE
 clear hG hT
 go_enter Tryz.func104,Tryz.ntmps104
 go_upto_region 1 with fail
 refine wp_world' (fun wx=>Blk wx w.heap.size #[.int .i64 r,.int .i64 k] 125∧Blk wx (w.heap.size + 1) #[.int .i64 0,.int .i64 0] 51∧Below w.heap.size w wx)
  ⟨(Blk.new w _ _).alloc _,Blk.new' w _ _ _,((Below.refl _ _).alloc (Nat.le_refl _) _).alloc (by simp) _⟩ ?_
 rintro w1 ⟨hS,hZ,hb⟩
 have hls:=Lib.hid (run_load_row' (P:=Tryz.prog) w1 w.heap.size 125 #[.int .i64 r,.int .i64 k] 125 _ hS Tryz.underlying125 rfl (by kernel_rfl))
 have HS:=Lib.hid hS
 have HZ:=Lib.hid hZ
 clear hS hZ
 go_wp2_with (refine wpList_load_v rfl 125 _ rfl ⟨w.heap.size,0,none⟩ rfl _ hls.out ?_)
 refine (hpl.out _ hb).mono ?_
 rintro e w2 ⟨rfl,hb2⟩
 have HS2:=Lib.hid (HS.out.mod ((Mod.refl (fun _=>False) _).after hb2) (fun h=>h))
 have HZ2:=Lib.hid (HZ.out.mod ((Mod.refl (fun _=>False) _).after hb2) (fun h=>h))
 replace hb2:=hb.trans (hb2.mono hb.size)
 clear HS HZ hb hls hpl
 go_upto_region 2 with (refine wpList_store_new rfl 53 _ _ rfl rfl rfl _ #[.int .i64 G.x,.int .i64 G.y] _ rfl rfl (pair_one _ _) (pl_size _ _) ?_)
 refine wp_world' (fun wx=>Blk wx w.heap.size #[.int .i64 r,.int .i64 k] 125∧Blk wx (w.heap.size + 1) #[.int .i64 0,.int .i64 0] 51∧Below w.heap.size w wx)
  ⟨HS2.out.alloc _,HZ2.out.alloc _,hb2.alloc hb2.size _⟩ ?_
 rintro w3 ⟨hS,hZ,hb⟩
 have k0:w3.cell? ⟨w.heap.size,0,none⟩ = some (.int .i64 r):=hS.cell (i:=0) rfl
 have k1:w3.cell? ⟨w.heap.size,1,none⟩ = some (.int .i64 k):=hS.cell (i:=1) rfl
 have HZ:=Lib.hid hZ
 clear hS hZ HS2 HZ2 hb2
 have hfin:∀ {X:World},Mod (· = w.heap.size + 1) w3 X→Below w.heap.size w X:=fun h=>hb.trans (h.below hb.size (fun x hx=>by omega))
 cases T with
 | false=>
  obtain rfl:=hfalse.out rfl
  clear hO hfalse htrue
  go_wp2_with (first | (refine wpList_build_v rfl 51 rfl _ (run_wiZ _) ?_) | (refine wpList_store_row2 rfl 51 _ _ rfl rfl (w.heap.size + 1) rfl #[.int .i64 0,.int .i64 0] #[.int .i64 0,.int .i64 0] 51 HZ.out rfl rfl (pair_one _ _) (wi_size _ _) ?_; intro wz hBz hmz))
  exact bodyPost_ret (results_cell_tmp rfl _ _ (w.heap.size + 1) _ _ _ _ rfl hBz Tryz.underlying51 rfl (wi_size _ _)) rfl ⟨rfl,hfin hmz⟩
 | true=>
  have hG:=(htrue.out rfl).symm.trans hO.out
  by_cases c0:r < 0∨(t.length:Int)≤r
  ·rw [if_pos c0] at hG; cases hG
  ·rw [if_neg c0] at hG
   obtain ⟨n,rfl⟩:=Int.eq_ofNat_of_zero_le (show 0≤r by omega)
   have hn:n < t.length:=by omega
   simp only [Int.toNat_natCast,getD_at t hn] at hG
   obtain ⟨a,rfl⟩:=hE.out.some_of (k:=n) (by simpa using hn)
   have hl4:=Lib.hid ((hE.out.below hb).part (P:=Tryz.prog) (a:=a) rfl (k:=n) (by simpa using hn) 4 [.int .i64 (t[n] 4),.int .i64 (t[n] 5)] (fun j v h=>by rw [List.getElem_map]; match j,h with | 0,h=>exact h | 1,h=>exact h | j + 2,h=>simp at h) (ty:=51) Tryz.underlying51 rfl (by kernel_rfl))
   have hl6:=Lib.hid ((hE.out.below hb).part (P:=Tryz.prog) (a:=a) rfl (k:=n) (by simpa using hn) 6 [.int .i64 (t[n] 6),.int .i64 (t[n] 7)] (fun j v h=>by rw [List.getElem_map]; match j,h with | 0,h=>exact h | 1,h=>exact h | j + 2,h=>simp at h) (ty:=51) Tryz.underlying51 rfl (by kernel_rfl))
   have hnI:(n:Int) < t.length:=by omega
   generalize t[n] = q at hG hl4 hl6
   clear hO hfalse htrue c0
   by_cases e0:k = 0
   ·subst e0
    rw [if_pos rfl] at hG
    obtain rfl:=Option.some.inj hG
    go_upto_region 5 with fail
    go_wp2_with (first | (refine wpList_load_v rfl 51 _ rfl ((a.add (n * 10)).add 4) rfl _ hl4.out ?_) | (refine wpList_store_row2 rfl 51 _ _ rfl rfl (w.heap.size + 1) rfl #[.int .i64 0,.int .i64 0] #[.int .i64 (q 4),.int .i64 (q 5)] 51 HZ.out rfl rfl (pair_one _ _) (wi_size _ _) ?_; intro wz hBz hmz))
    exact bodyPost_ret (results_cell_tmp rfl _ _ (w.heap.size + 1) _ _ _ _ rfl hBz Tryz.underlying51 rfl (wi_size _ _)) rfl ⟨rfl,hfin hmz⟩
   ·rw [if_neg e0] at hG
    by_cases e1:k = 1
    ·subst e1
     rw [if_pos rfl] at hG
     obtain rfl:=Option.some.inj hG
     go_upto_region 6 with fail
     go_wp2_with (first | (refine wpList_load_v rfl 51 _ rfl ((a.add (n * 10)).add 6) rfl _ hl6.out ?_) | (refine wpList_store_row2 rfl 51 _ _ rfl rfl (w.heap.size + 1) rfl #[.int .i64 0,.int .i64 0] #[.int .i64 (q 6),.int .i64 (q 7)] 51 HZ.out rfl rfl (pair_one _ _) (wi_size _ _) ?_; intro wz hBz hmz))
     exact bodyPost_ret (results_cell_tmp rfl _ _ (w.heap.size + 1) _ _ _ _ rfl hBz Tryz.underlying51 rfl (wi_size _ _)) rfl ⟨rfl,hfin hmz⟩
    ·rw [if_neg e1] at hG
     cases hG
end
section
open Go.RowKit
def wrP (x y cp st en:Int) (l:List (Int × Int)) (t:List Rq):Int:=
 if vehCode x y cp st en ≠ 0 then 2 else if t.any (fun q=>rqE q != 0) then 2 else if chkP l ≠ 0 then 8 else if l.any (fun s=>!ptB s t) then 8 else 0
theorem wrong7_ref (x y cp st en:Int) (p p':Option Addr) (c c':Nat) (l:List (Int × Int)) (t:List Rq) (w:World) (hL:Els w p 2 (l.map stV)) (hc:l.length≤c∧c≤9223372036854775807) (hT:Els w p' 10 (t.map rqV)):
  Calls Tryz.prog 102 #[.agg #[.int .i64 x,.int .i64 y,.int .i64 cp,.int .i64 st,.int .i64 en],.slice p l.length c,.slice p' t.length c'] w fun e w'=>e = .returned (.int .i64 (wrP x y cp st en l t))∧Below w.heap.size w w':=by
 have hbl:l.length≤140737488351232:=by simpa using hL.big
 have hbt:t.length≤140737488351232:=by simpa using hT.big
 have hX:wrP x y cp st en l t = if vehCode x y cp st en ≠ 0 then 2 else if t.any (fun q=>rqE q != 0) then 2 else if chkP l ≠ 0 then 8 else if l.any (fun s=>!ptB s t) then 8 else 0:=rfl
 have hv:=Lib.hid (fun w=>vehicle_ref x y cp st en w)
 have hk:=Lib.hid (fun wx (h:Below w.heap.size w wx)=>(by
  have:=rcheck_ref p c l wx (hL.below h) hc
  rwa [chk_one] at this:Calls Tryz.prog 127 #[.slice p l.length c] wx fun e w'=>e = .returned (.int .i64 (chkP l))∧Below wx.heap.size wx w'))
 have hp:=Lib.hid (fun wx (r k:Int) (h:Below w.heap.size w wx)=>place7_ref p' c' t r k wx (hT.below h))
 have hq:=Lib.hid (fun w (q:Rq)=>chk_ref (q 0) (q 1) (q 2) (q 3) (q 4) (q 5) (q 6) (q 7) (q 8) (q 9) w)
 generalize wrP x y cp st en l t = X at hX ⊢
 generalize vehCode x y cp st en = ve at hX hv
 generalize chkP l = ck at hX hk
 replace hX:=Lib.hid hX
 replace hL:=Lib.hid hL
 replace hT:=Lib.hid hT
 have hlv:=Lib.hid (fun wx (h:Blk wx w.heap.size #[.int .i64 x,.int .i64 y,.int .i64 cp,.int .i64 st,.int .i64 en] 59)=>run_load_row' (P:=Tryz.prog) wx w.heap.size 59 #[.int .i64 x,.int .i64 y,.int .i64 cp,.int .i64 st,.int .i64 en] 59 _ h Tryz.underlying59 rfl (by kernel_rfl))
 go_enter Tryz.func102,Tryz.ntmps102
 go_upto_region 1 with fail
 refine wp_world' (fun wx=>Blk wx w.heap.size #[.int .i64 x,.int .i64 y,.int .i64 cp,.int .i64 st,.int .i64 en] 59∧Below w.heap.size w wx) ⟨Blk.new _ _ _,new_below _ _⟩ ?_
 rintro w1 ⟨hB,hb⟩
 have hlv1:=Lib.hid (hlv.out _ hB)
 clear hB hlv
 go_wp2_with (refine wpList_load_v rfl 59 _ rfl ⟨w.heap.size,0,none⟩ rfl _ hlv1.out ?_)
 refine (hv.out _).mono ?_
 rintro e w2 ⟨rfl,hb2⟩
 replace hb2:=hb.trans (hb2.mono hb.size)
 clear hlv1 hv hb
 by_cases v0:ve = 0
 ·subst v0
  go_wp2_with fail
  go_loopw [7] (fun i wr=>∃ k:Nat,k≤t.length∧i = .int .i64 k∧Hid (∀ j q,j < k→t[j]? = some q→rqE q = 0)∧Below w.heap.size w wr) (fun i _=>t.length - (intOf i).toNat)
  case atStart=>exact ⟨0,Nat.zero_le _,rfl,Lib.hid (fun j q h=>by omega),hb2⟩
  case round=>
   obtain ⟨k,hkl,rfl,hR,hbr⟩:=hrel
   by_cases hlt:k < t.length
   ·have hltI:(k:Int) < (t.length:Int):=by omega
    have s1:IntKind.i64.wrap ((k:Int) + 1) = (k:Int) + 1:=IntWalk.i64_in _ (by omega)
    obtain ⟨a,rfl⟩:=(hT.out.below hbr).some_of (k:=k) (by simpa using hlt)
    have hla:=Lib.hid ((hT.out.below hbr).load (P:=Tryz.prog) (a:=a) rfl (k:=k) (by simpa using hlt) (ty:=55) Tryz.underlying55 rfl (by kernel_rfl))
    rw [List.getElem_map] at hla
    have htk:t[k]? = some t[k]:=List.getElem?_eq_getElem hlt
    generalize t[k] = q at hla htk
    have hqq:Hid (rqCode (q 0) (q 1) (q 2) (q 3) (q 4) (q 5) (q 6) (q 7) (q 8) (q 9) = rqE q):=Lib.hid rfl
    have hcq:=Lib.hid (hq.out wr q)
    rw [hqq.out] at hcq
    have hbad:Hid (rqE q ≠ 0→X = 2):=Lib.hid (fun h=>by
     rw [hX.out,if_neg (by simp),if_pos]
     rw [List.any_eq_true]
     exact ⟨q,List.mem_of_getElem? htk,by simpa using h⟩)
    have hok:Hid (rqE q = 0→∀ j q,j < k + 1→t[j]? = some q→rqE q = 0):=Lib.hid (fun h j u hj hju=>by
     by_cases e:j = k
     ·subst e; rw [htk] at hju; cases hju; exact h
     ·exact hR.out j u (by omega) hju)
    clear hR htk hqq
    generalize rqE q = rc at hcq hbad hok
    go_wp2_with (refine wpList_load_v rfl 55 _ rfl (a.add (k * 10)) rfl _ hla.out ?_)
    refine hcq.out.mono ?_
    rintro e w3 ⟨rfl,hb3⟩
    replace hb3:=hbr.trans (hb3.mono hbr.size)
    clear hla hcq hbr
    by_cases r0:rc = 0
    ·have hok':=Lib.hid (hok.out r0)
     subst r0
     clear hbad hok
     go_wp2_with fail
     go_roundw
     case rel=>exact ⟨k + 1,by omega,by simp,hok',hb3⟩
     case measure=>simp [intOf]; omega
    ·obtain rfl:X = 2:=hbad.out r0
     have d1:(rc == 0) = false:=beq_eq_false_iff_ne.2 r0
     have d2:(rc != 0) = true:=by rw [bne,d1]; rfl
     clear hbad hok hX
     go_wp2_with fail
     go_ret
     exact ⟨rfl,hb3⟩
   ·obtain rfl:k = t.length:=by omega
    have hX2:X = if ck ≠ 0 then 8 else if l.any (fun s=>!ptB s t) then 8 else 0:=by
     rw [hX.out,if_neg (by simp),if_neg]
     rw [List.any_eq_true]
     rintro ⟨q,hq,hne⟩
     obtain ⟨j,hj,rfl⟩:=List.getElem_of_mem hq
     exact (by simpa using hne:rqE t[j] ≠ 0) (hR.out j _ hj (List.getElem?_eq_getElem hj))
    replace hX2:=Lib.hid hX2
    clear hX hR hq hT
    go_wp2_with fail
    refine (hk.out _ hbr).mono ?_
    rintro e w3 ⟨rfl,hb3⟩
    replace hb3:=hbr.trans (hb3.mono hbr.size)
    clear hbr hk
    by_cases c0:ck = 0
    ·subst c0
     go_wp2_with fail
     go_loopw [8] (fun i wr=>∃ k:Nat,k≤l.length∧i = .int .i64 k∧Hid (∀ j s,j < k→l[j]? = some s→ptB s t = true)∧Below w.heap.size w wr) (fun i _=>l.length - (intOf i).toNat)
     case atStart=>exact ⟨0,Nat.zero_le _,rfl,Lib.hid (fun j q h=>by omega),hb3⟩
     case round=>
      obtain ⟨k,hkl,rfl,hR,hbr⟩:=hrel
      by_cases hlt:k < l.length
      ·have hltI:(k:Int) < (l.length:Int):=by omega
       have s1:IntKind.i64.wrap ((k:Int) + 1) = (k:Int) + 1:=IntWalk.i64_in _ (by omega)
       obtain ⟨a,rfl⟩:=(hL.out.below hbr).some_of (k:=k) (by simpa using hlt)
       have hla:=Lib.hid ((hL.out.below hbr).load (P:=Tryz.prog) (a:=a) rfl (k:=k) (by simpa using hlt) (ty:=125) Tryz.underlying125 rfl (by kernel_rfl))
       rw [List.getElem_map] at hla
       have htk:l[k]? = some l[k]:=List.getElem?_eq_getElem hlt
       obtain ⟨r,q,hs⟩:∃ r q,l[k] = (r,q):=⟨_,_,rfl⟩
       rw [hs] at hla htk
       have hcp:=Lib.hid (hp.out wr r q hbr)
       have hbad:Hid (ptB (r,q) t = false→X = 8):=Lib.hid (fun h=>by
        rw [hX2.out,if_neg (by simp),if_pos]
        rw [List.any_eq_true]
        exact ⟨_,List.mem_of_getElem? htk,by rw [h]; rfl⟩)
       have hok:Hid (ptB (r,q) t = true→∀ j s,j < k + 1→l[j]? = some s→ptB s t = true):=Lib.hid (fun h j u hj hju=>by
        by_cases e:j = k
        ·subst e; rw [htk] at hju; cases hju; exact h
        ·exact hR.out j u (by omega) hju)
       clear hR htk hs
       generalize ptB (r,q) t = pb at hcp hbad hok
       generalize ptG (r,q) t = pg at hcp
       go_wp2_with (first | (refine wpList_load_v rfl 125 _ rfl (a.add (k * 2)) rfl _ hla.out ?_))
       refine hcp.out.mono ?_
       rintro e w4 ⟨rfl,hb4⟩
       replace hb4:=hbr.trans (hb4.mono hbr.size)
       clear hla hcp hbr
       cases pb with
       | true=>
        have hok':=Lib.hid (hok.out rfl)
        clear hbad hok
        go_upto_region 14 with (refine wpList_store_new rfl 53 _ _ rfl rfl rfl _ #[.int .i64 pg.x,.int .i64 pg.y] _ rfl rfl (pair_one _ _) (pl_size _ _) ?_)
        go_wp2_with fail
        go_roundw
        case rel=>exact ⟨k + 1,by omega,by simp,hok',hb4.alloc hb4.size _⟩
        case measure=>simp [intOf]; omega
       | false=>
        obtain rfl:X = 8:=hbad.out rfl
        clear hbad hok hX2
        go_upto_region 14 with (refine wpList_store_new rfl 53 _ _ rfl rfl rfl _ #[.int .i64 pg.x,.int .i64 pg.y] _ rfl rfl (pair_one _ _) (pl_size _ _) ?_)
        go_wp2_with fail
        go_ret
        exact ⟨rfl,hb4.alloc hb4.size _⟩
      ·obtain rfl:k = l.length:=by omega
       obtain rfl:X = 0:=by
        rw [hX2.out,if_neg (by simp),if_neg]
        rw [List.any_eq_true]
        rintro ⟨s,hs,hne⟩
        obtain ⟨j,hj,rfl⟩:=List.getElem_of_mem hs
        rw [hR.out j _ hj (List.getElem?_eq_getElem hj)] at hne
        cases hne
       clear hX2 hR
       go_wp2_with fail
       go_ret
       exact ⟨rfl,hbr⟩
    ·obtain rfl:X = 8:=by rw [hX2.out,if_pos c0]
     have d1:(ck == 0) = false:=beq_eq_false_iff_ne.2 c0
     have d2:(ck != 0) = true:=by rw [bne,d1]; rfl
     clear hX2
     go_wp2_with fail
     go_ret
     exact ⟨rfl,hb3⟩
 ·obtain rfl:X = 2:=by rw [hX.out,if_pos v0]
  have d1:(ve == 0) = false:=beq_eq_false_iff_ne.2 v0
  have d2:(ve != 0) = true:=by rw [bne,d1]; rfl
  clear hX
  go_wp2_with fail
  go_ret
  exact ⟨rfl,hb2⟩
end
section
open Go.RowKit
theorem own_mod {w w':World} {base n k:Nat} {E:TypeId} {v:Value} {xs:List Value} (h:w.ownsRow base E n v k xs) {S:Nat→Prop} (hm:Mod S w w') (hs:∀ g,v.ownBlock = some g→¬ S g):w'.ownsRow base E n v k xs:=by
 refine ⟨h.1,?_⟩
 rcases h.2 with h1 | ⟨g,cap,cur,hv,hg,hw,r⟩
 ·exact .inl h1
 ·refine .inr ⟨g,cap,cur,hv,hg,?_,r⟩
  have hlt:=(Array.getElem?_eq_some_iff.1 hw).1
  exact (hm.block g hlt (hs g (by rw [hv]; rfl))).trans hw
theorem own_below {w w':World} {base n k:Nat} {E:TypeId} {v:Value} {xs:List Value} (h:w.ownsRow base E n v k xs) (hb:Below w.heap.size w w'):w'.ownsRow base E n v k xs:=
 own_mod h ((Mod.refl (fun _=>False) w).after hb) (fun _ _ h=>h)
abbrev Tms:=List (Int × Int × Int)
def tmV (x:Int × Int × Int):List Value:=[.int .i64 x.1,.int .i64 x.2.1,.int .i64 x.2.2]
theorem tmV_len (L:Tms):∀ x ∈ L.map tmV,x.length = 3:=by
 intro x hx
 obtain ⟨s,_,rfl⟩:=List.mem_map.1 hx
 rfl
def tmRun (t:List Rq):List (Int × Int)→Int→Int→Int→Option (Tms × Int × Int × Int)
 | [],ax,ay,now=>some ([],ax,ay,now)
 | s :: r,ax,ay,now=>
  if waB (ptG s t).e (ptG s t).l (now + dsP ax ay (ptG s t).x (ptG s t).y) = true then
   (tmRun t r (ptG s t).x (ptG s t).y (waN (ptG s t).e (ptG s t).l (now + dsP ax ay (ptG s t).x (ptG s t).y) + (ptG s t).s)).map fun q=>
     ((now + dsP ax ay (ptG s t).x (ptG s t).y,waN (ptG s t).e (ptG s t).l (now + dsP ax ay (ptG s t).x (ptG s t).y),waN (ptG s t).e (ptG s t).l (now + dsP ax ay (ptG s t).x (ptG s t).y) + (ptG s t).s) :: q.1,q.2)
  else none
def tmP (x y cp st en:Int) (l:List (Int × Int)) (t:List Rq):Tms × Int × Int:=
 if wrP x y cp st en l t ≠ 0 then ([],0,wrP x y cp st en l t)
 else match tmRun t l x y st with
  | none=>([],0,9)
  | some (L,ax,ay,now)=>if en < now + dsP ax ay x y then ([],0,9) else (L,now + dsP ax ay x y,0)
theorem waN_bd {e l a:Int} (h:waB e l a = true):0≤waN e l a∧waN e l a≤1048576:=by
 unfold waN
 rw [if_pos h]
 unfold waB at h
 rw [Bool.and_eq_true] at h
 have h1:=of_decide_eq_true h.1
 have h2:=of_decide_eq_true h.2
 have h3:e≤mx a e:=by unfold mx; split <;> omega
 omega
theorem rqE_serve {q:Rq} (h:rqE q = 0):0≤q 9∧q 9≤1000:=by
 unfold rqE rqCode firstC at h
 cases h1:(plB (q 0) (q 1) && plB (q 2) (q 3)) <;> rw [h1] at h
 ·simp at h
 cases h2:(wiB (q 4) (q 5) && wiB (q 6) (q 7)) <;> rw [h2] at h
 ·simp at h
 cases h3:(decide (1≤q 8∧q 8≤1000) && decide (0≤q 9∧q 9≤1000)) <;> rw [h3] at h
 ·simp at h
 rw [Bool.and_eq_true] at h3
 exact of_decide_eq_true h3.2
theorem wrP_zero {x y cp st en:Int} {l:List (Int × Int)} {t:List Rq} (h:wrP x y cp st en l t = 0):
  vehCode x y cp st en = 0∧(∀ q ∈ t,rqE q = 0)∧chkP l = 0∧∀ s ∈ l,ptB s t = true:=by
 unfold wrP at h
 by_cases h1:vehCode x y cp st en ≠ 0
 ·rw [if_pos h1] at h; cases h
 rw [if_neg h1] at h
 by_cases h2:t.any (fun q=>rqE q != 0) = true
 ·rw [if_pos h2] at h; cases h
 rw [if_neg h2] at h
 by_cases h3:chkP l ≠ 0
 ·rw [if_pos h3] at h; cases h
 rw [if_neg h3] at h
 by_cases h4:l.any (fun s=>!ptB s t) = true
 ·rw [if_pos h4] at h; cases h
 refine ⟨by simpa using h1,fun q hq=>?_,by simpa using h3,fun s hs=>?_⟩
 ·by_cases e:rqE q = 0
  ·exact e
  ·exact absurd (List.any_eq_true.2 ⟨q,hq,by simpa using e⟩) h2
 ·cases e:ptB s t with
  | true=>rfl
  | false=>exact absurd (List.any_eq_true.2 ⟨s,hs,by rw [e]; rfl⟩) h4
theorem vehCode_zero {x y cp st en:Int} (h:vehCode x y cp st en = 0):1≤cp∧cp≤100000∧0≤st∧st≤en∧en≤1048576:=by
 unfold vehCode firstV at h
 cases h1:plB x y <;> rw [h1] at h
 ·simp at h
 cases h2:(decide (1≤cp∧cp≤100000) && (decide (0≤st∧st≤en) && decide (0≤en∧en≤1048576))) <;> rw [h2] at h
 ·simp at h
 simp only [Bool.and_eq_true,decide_eq_true_eq] at h2
 omega
theorem pt_there {s:Int × Int} {t:List Rq} (h:ptB s t = true):∃ n:Nat,s.1 = n∧∃ hn:n < t.length,(ptG s t).s = t[n] 9:=by
 unfold ptB at h
 unfold ptG
 unfold ptOf at h ⊢
 by_cases h1:s.1 < 0∨(t.length:Int)≤s.1
 ·rw [if_pos h1] at h; cases h
 ·rw [if_neg h1] at h ⊢
  have hn:s.1.toNat < t.length:=by omega
  refine ⟨s.1.toNat,by omega,hn,?_⟩
  by_cases h2:s.2 = 0
  ·rw [if_pos h2,getD_at t hn]; rfl
  ·rw [if_neg h2] at h ⊢
   by_cases h3:s.2 = 1
   ·rw [if_pos h3,getD_at t hn]; rfl
   ·rw [if_neg h3] at h; cases h
theorem tm_size (a b c:Int):(Tryz.prog.info? 138).map (·.size) = some (tmV (a,b,c)).toArray.size:=by kernel_rfl
theorem tm_one (x:Int × Int × Int):∀ v ∈ tmV x,v.oneCell' = true:=by simp [tmV,Value.oneCell']
theorem tm_el:ElT Tryz.prog 102 138 3 24:=⟨Tryz.underlying102,by kernel_rfl,by kernel_rfl,by kernel_rfl,by omega,by omega⟩
theorem rsl_tm (x:Int × Int × Int) (w:World):(Instr.buildSlice 102 1 #[(0,.agg (tmV x).toArray)]).run Tryz.prog w = .ok (.slice (some ⟨w.heap.size,0,none⟩) 1 1) (w.alloc (.cells (tmV x).toArray 138)):=by kernel_rfl
def TmPost (w:World) (R:Tms × Int × Int) (e:Ending) (w':World):Prop:=
 ∃ p c,e = .returned (.tuple #[.slice p R.1.length c,.int .i64 R.2.1,.int .i64 R.2.2])∧Below w.heap.size w w'∧Els w' p 3 (R.1.map tmV)∧R.1.length≤c∧c≤9223372036854775807∧∀ a,p = some a→w.heap.size≤a.block∧a.spot = none
theorem tm_none {w w':World} {k e:Int} {E:Ending} (hE:E = .returned (.tuple #[.slice none 0 0,.int .i64 k,.int .i64 e])) (hb:Below w.heap.size w w'):TmPost w ([],k,e) E w':=
 ⟨none,0,hE,hb,⟨(fun _=>rfl),(fun x hx=>by cases hx),by show 0≤_; omega,(fun a ha=>by cases ha)⟩,Nat.le_refl _,by omega,fun a ha=>by cases ha⟩
end
section
open Go.RowKit
theorem wpList_bs1 {P:Program} {ops:Array Oper} {rest:List Oper} {o:Oper} {a:Act} {w:World} {Q:Exit→Act→World→Prop} (hgd:o.guard = none) (t:TypeId) (n i:Nat) (x:Operand) (ho:o.op = .buildSlice t n #[(i,x)])
  (vx:Value) (hx:a.eval x = vx) (v:Value) (w':World) (hrun:(Instr.buildSlice t n #[(i,vx)]).run P w = .ok v w') (h:wpList P ops Q rest (a.put o.dst v) w'):wpList P ops Q (o :: rest) a w:=
 wpList_bsd hgd hrun ho (by simp only [List.map_toArray,List.map_cons,List.map_nil,hx]) h
theorem own_blk_lt {w:World} {base n k g:Nat} {E:TypeId} {v:Value} {xs:List Value} (h:w.ownsRow base E n v k xs) (hg:v.ownBlock = some g):base≤g∧g < w.heap.size:=by
 rcases h.2 with ⟨hv,_⟩ | ⟨g',cap,cur,hv,hg',hw,_⟩
 ·rw [hv] at hg; cases hg
 ·rw [hv] at hg; cases hg; exact ⟨hg',(Array.getElem?_eq_some_iff.1 hw).1⟩
theorem own_cap {w:World} {base n m k c:Nat} {p:Option Addr} {E:TypeId} {xs:List Value} (h:w.ownsRow base E n (.slice p k c) m xs):c≤9223372036854775807:=by
 rcases h.2 with ⟨hv,_⟩ | ⟨g,cap,cur,hv,hg,hw,hk,hm,_⟩
 ·cases hv; omega
 ·cases hv; exact Nat.le_trans hm (by decide)
theorem chkP_len {l:List (Int × Int)} (h:chkP l = 0):l.length≤16:=by
 unfold chkP at h
 by_cases h1:l.length > 16
 ·rw [if_pos h1] at h; cases h
 ·omega
theorem tmRun_cons (t:List Rq) (s:Int × Int) (r:List (Int × Int)) (ax ay now:Int):tmRun t (s :: r) ax ay now = if waB (ptG s t).e (ptG s t).l (now + dsP ax ay (ptG s t).x (ptG s t).y) = true then
   (tmRun t r (ptG s t).x (ptG s t).y (waN (ptG s t).e (ptG s t).l (now + dsP ax ay (ptG s t).x (ptG s t).y) + (ptG s t).s)).map fun q=>
     ((now + dsP ax ay (ptG s t).x (ptG s t).y,waN (ptG s t).e (ptG s t).l (now + dsP ax ay (ptG s t).x (ptG s t).y),waN (ptG s t).e (ptG s t).l (now + dsP ax ay (ptG s t).x (ptG s t).y) + (ptG s t).s) :: q.1,q.2)
  else none:=rfl
theorem times7_ref (x y cp st en:Int) (p p':Option Addr) (c c':Nat) (l:List (Int × Int)) (t:List Rq) (w:World) (hL:Els w p 2 (l.map stV)) (hc:l.length≤c∧c≤9223372036854775807) (hT:Els w p' 10 (t.map rqV)):
  Calls Tryz.prog 92 #[.agg #[.int .i64 x,.int .i64 y,.int .i64 cp,.int .i64 st,.int .i64 en],.slice p l.length c,.slice p' t.length c'] w (TmPost w (tmP x y cp st en l t)):=by
 have hbl:l.length≤140737488351232:=by simpa using hL.big
 have hbt:t.length≤140737488351232:=by simpa using hT.big
 have hX:tmP x y cp st en l t = if wrP x y cp st en l t ≠ 0 then ([],0,wrP x y cp st en l t)
  else match tmRun t l x y st with | none=>([],0,9) | some (L,ax,ay,now)=>if en < now + dsP ax ay x y then ([],0,9) else (L,now + dsP ax ay x y,0):=rfl
 have hw:=Lib.hid (fun wx (h:Below w.heap.size w wx)=>wrong7_ref x y cp st en p p' c c' l t wx (hL.below h) hc (hT.below h))
 have hz:=Lib.hid (fun h:wrP x y cp st en l t = 0=>wrP_zero h)
 generalize tmP x y cp st en l t = X at hX ⊢
 generalize wrP x y cp st en l t = wr at hX hw hz
 replace hX:=Lib.hid hX
 replace hL:=Lib.hid hL
 replace hT:=Lib.hid hT
 have hp:=Lib.hid (fun wx (r k:Int) (h:Below w.heap.size w wx)=>place7_ref p' c' t r k wx (hT.out.below h))
 have hwi:=Lib.hid (fun wx (r k:Int) (h:Below w.heap.size w wx)=>window7_ref p' c' t r k wx (hT.out.below h))
 obtain ⟨V,hV⟩:∃ V:Array Value,#[.int .i64 x,.int .i64 y,.int .i64 cp,.int .i64 st,.int .i64 en] = V:=⟨_,rfl⟩
 have g0:V[0]? = some (.int .i64 x):=by rw [← hV]; rfl
 have g1:V[1]? = some (.int .i64 y):=by rw [← hV]; rfl
 have g3:V[3]? = some (.int .i64 st):=by rw [← hV]; rfl
 have g4:V[4]? = some (.int .i64 en):=by rw [← hV]; rfl
 have hsV:V.size = 5:=by rw [← hV]; rfl
 have hlv:=Lib.hid (fun wx (h:Blk wx w.heap.size V 59)=>run_load_row' (P:=Tryz.prog) wx w.heap.size 59 V 59 _ h Tryz.underlying59 rfl (by rw [hsV]; kernel_rfl))
 have hlh:=Lib.hid (fun wx (h:Blk wx w.heap.size V 59)=>(show (loadVar 53 ⟨w.heap.size,0,none⟩).run Tryz.prog wx = .ok (.agg #[.int .i64 x,.int .i64 y]) wx from by
  have:=load_part (P:=Tryz.prog) wx w.heap.size V 59 h 0 2 (by rw [hsV]; omega) 53 _ Tryz.underlying53 rfl (by kernel_rfl)
  rw [this,← hV]; rfl))
 rw [hV] at hw ⊢
 clear hV hsV
 go_enter Tryz.func92,Tryz.ntmps92
 go_upto_region 1 with fail
 refine wp_world' (fun wx=>Blk wx w.heap.size V 59∧Below w.heap.size w wx) ⟨Blk.new _ _ _,new_below _ _⟩ ?_
 rintro w1 ⟨hB,hb⟩
 have hlv1:=Lib.hid (hlv.out _ hB)
 have HB:=Lib.hid hB
 clear hB hlv
 go_wp2_with (refine wpList_load_v rfl 59 _ rfl ⟨w.heap.size,0,none⟩ rfl _ hlv1.out ?_)
 refine (hw.out _ hb).mono ?_
 rintro e w2 ⟨rfl,hb2⟩
 have HB2:=Lib.hid (HB.out.mod ((Mod.refl (fun _=>False) _).after hb2) (fun h=>h))
 replace hb2:=hb.trans (hb2.mono hb.size)
 clear hlv1 hw hb HB
 by_cases v0:wr = 0
 ·subst v0
  obtain ⟨z1,z2,z3,z4⟩:=hz.out rfl
  have hl16:=chkP_len z3
  clear z3
  obtain ⟨_,_,q1,q2,q3⟩:=vehCode_zero z1
  replace z2:=Lib.hid z2
  replace z4:=Lib.hid z4
  have hX2:Hid (X = match tmRun t l x y st with | none=>([],0,9) | some (L,ax,ay,now)=>if en < now + dsP ax ay x y then ([],0,9) else (L,now + dsP ax ay x y,0)):=Lib.hid (hX.out.trans (if_neg (by simp)))
  clear hX hz z1
  have k3:=HB2.out.cell g3
  have k0:=HB2.out.cell g0
  have k1:=HB2.out.cell g1
  have k3':=(HB2.out.alloc (.cells #[.int .i64 0,.int .i64 0] 53)).cell g3
  have k0':=(HB2.out.alloc (.cells #[.int .i64 0,.int .i64 0] 53)).cell g0
  have k1':=(HB2.out.alloc (.cells #[.int .i64 0,.int .i64 0] 53)).cell g1
  have k3'':=(HB2.out.alloc (.cells #[.int .i64 x,.int .i64 y] 53)).cell g3
  go_upto_region 5 with fail
  go_region
  go_upto_region 6 with fail
  refine wp_world' (fun wx=>Blk wx w.heap.size V 59∧Blk wx w2.heap.size #[.int .i64 x,.int .i64 y] 53∧Below w.heap.size w wx)
   ⟨(HB2.out.alloc _).drew,(Blk.new _ _ _).drew,(hb2.alloc hb2.size _).drew⟩ ?_
  rintro w3 ⟨hV3,hA3,hb3⟩
  have hgA:w.heap.size < w2.heap.size:=HB2.out.lt
  have hgB:w2.heap.size < w3.heap.size:=hA3.lt
  clear k0 k1 k3 k0' k1' k3' k3'' HB2 hb2 g0 g1 g3
  generalize w2.heap.size = gA at *
  generalize hgs:w3.heap.size = gs at *
  replace hgs:=Lib.hid hgs
  go_wp2_with fail
  go_loopw [10,12,13] (fun o nw i wr=>∃ (k:Nat) (L:Tms) (ax ay now:Int),k≤l.length∧i = .int .i64 k∧nw = .int .i64 now∧(0≤now∧now≤1050000)∧L.length = k∧Hid (tmRun t l x y st = (tmRun t (l.drop k) ax ay now).map fun q=>(L ++ q.1,q.2))∧
   wr.ownsRow gs 138 3 o L.length (L.map tmV).flatten∧Blk wr gA #[.int .i64 ax,.int .i64 ay] 53∧Blk wr w.heap.size V 59∧Below w.heap.size w wr∧gs≤wr.heap.size) (fun _ _ i _=>l.length - (intOf i).toNat)
  case atStart=>exact ⟨0,[],x,y,st,Nat.zero_le _,rfl,rfl,by omega,rfl,Lib.hid (by rw [List.drop_zero]; cases tmRun t l x y st <;> rfl),World.ownsRow_nil _ _ _ _,hA3,hV3,hb3,by rw [hgs.out]; exact Nat.le_refl _⟩
  case round=>
   obtain ⟨k,L,ax,ay,now,hk,rfl,rfl,hnow,hLk,hR,hown,hA,hVr,hbr,hgr⟩:=hrel
   by_cases hlt:k < l.length
   ·have hltI:(k:Int) < (l.length:Int):=by omega
    obtain ⟨a,rfl⟩:=(hL.out.below hbr).some_of (k:=k) (by simpa using hlt)
    have hla:=Lib.hid (fun wx (h:Below w.heap.size w wx)=>(hL.out.below h).load (P:=Tryz.prog) (a:=a) rfl (k:=k) (by simpa using hlt) (ty:=125) Tryz.underlying125 rfl (by kernel_rfl))
    have hl0:=Lib.hid (fun wx (h:Below w.heap.size w wx)=>(hL.out.below h).one (a:=a) rfl (k:=k) (by simpa using hlt) 0 (.int .i64 (l[k].1)) (by rw [List.getElem_map]; rfl))
    have hstep:tmRun t (l.drop k) ax ay now = tmRun t (l[k] :: l.drop (k + 1)) ax ay now:=by rw [List.drop_eq_getElem_cons hlt]
    have hpb:=z4.out _ (List.getElem_mem hlt)
    obtain ⟨n,hn1,hn2,hn3⟩:=pt_there hpb
    have hsv:=rqE_serve (z2.out _ (List.getElem_mem hn2))
    rw [← hn3] at hsv
    rw [List.getElem_map] at hla
    obtain ⟨r,q,hs⟩:∃ r q,l[k] = (r,q):=⟨_,_,rfl⟩
    rw [hs] at hla hl0 hstep hpb hn1 hn3 hsv
    simp only at hn1 hl0
    subst hn1
    obtain ⟨a',rfl⟩:=(hT.out.below hbr).some_of (k:=n) (by simpa using hn2)
    have hl9:=Lib.hid (fun wx (h:Below w.heap.size w wx)=>(hT.out.below h).one (a:=a') rfl (k:=n) (by simpa using hn2) 9 (.int .i64 (t[n] 9)) (by rw [List.getElem_map]; rfl))
    rw [← hn3] at hl9
    have hcp:=Lib.hid (fun wx (h:Below w.heap.size w wx)=>(by have:=hp.out wx (n:Int) q h; rwa [hpb] at this:Calls Tryz.prog 103 #[.agg #[.int .i64 (n:Int),.int .i64 q],.slice (some a') t.length c'] wx fun e w'=>e = .returned (.tuple #[.agg #[.int .i64 (ptG ((n:Int),q) t).x,.int .i64 (ptG ((n:Int),q) t).y],.bool true])∧Below wx.heap.size wx w'))
    have hcw:=Lib.hid (fun wx (h:Below w.heap.size w wx)=>(by have:=hwi.out wx (n:Int) q h; rwa [hpb] at this:Calls Tryz.prog 104 #[.agg #[.int .i64 (n:Int),.int .i64 q],.slice (some a') t.length c'] wx fun e w'=>e = .returned (.tuple #[.agg #[.int .i64 (ptG ((n:Int),q) t).e,.int .i64 (ptG ((n:Int),q) t).l],.bool true])∧Below wx.heap.size wx w'))
    have hR2:=hR.out
    rw [hstep,tmRun_cons] at hR2
    generalize ptG ((n:Int),q) t = g at hR2 hcp hcw hl9 hsv
    have hds:=dsP_bd ax ay g.x g.y
    have hdc:=Lib.hid (fun w=>dist_ref ax ay g.x g.y w)
    generalize dsP ax ay g.x g.y = d at hR2 hds hdc
    have s1:IntKind.i64.wrap (now + d) = now + d:=IntWalk.i64_in _ (by omega)
    have hwc:=Lib.hid (fun w=>wait_ref g.e g.l (now + d) w)
    have hwb:=fun h=>waN_bd (e:=g.e) (l:=g.l) (a:=now + d) h
    generalize waB g.e g.l (now + d) = wb at hR2 hwc hwb
    generalize waN g.e g.l (now + d) = wn at hR2 hwc hwb
    have hwnb:wb = true→0≤wn∧wn≤1048576:=hwb
    clear hwb
    replace hwnb:=Lib.hid hwnb
    replace hR2:=Lib.hid hR2
    have hla1:=Lib.hid (hla.out wr hbr)
    go_upto_region 9 with fail
    go_wp2_with (first | (refine wpList_load_v rfl 125 _ rfl (a.add (k * 2)) rfl _ hla1.out ?_))
    refine (hcp.out wr hbr).mono ?_
    rintro e w4 ⟨rfl,hb4⟩
    have hM4:Mod (fun _=>False) wr w4:=(Mod.refl _ _).after hb4
    have hgB4:wr.heap.size≤w4.heap.size:=hb4.size
    replace hM4:=Lib.hid hM4
    clear hb4 hla1 hcp
    go_upto_region 10 with (refine wpList_store_new rfl 53 _ _ rfl rfl rfl _ #[.int .i64 g.x,.int .i64 g.y] _ rfl rfl (pair_one _ _) (pl_size _ _) ?_)
    generalize hbP:w4.heap.size = bP
    refine wp_world' (fun wx=>Blk wx bP #[.int .i64 g.x,.int .i64 g.y] 53∧Mod (fun _=>False) wr wx∧Below w.heap.size w wx)
     ⟨by rw [← hbP]; exact Blk.new _ _ _,hM4.out.alloc _,hbr.trans ((hM4.out.alloc _).below hbr.size (fun _ h=>h.elim))⟩ ?_
    rintro w5 ⟨hP5,hM5,hb5⟩
    have hla5:=Lib.hid (hla.out w5 hb5)
    have HP5:=Lib.hid hP5
    replace hM5:=Lib.hid hM5
    have hPlt:bP < w5.heap.size:=hP5.lt
    rw [hbP] at hgB4
    clear hbP hM4 hP5
    go_wp2_with (first | (refine wpList_load_v rfl 125 _ rfl (a.add (k * 2)) rfl _ hla5.out ?_))
    refine (hcw.out w5 hb5).mono ?_
    rintro e w6 ⟨rfl,hb6⟩
    have hM6:=Lib.hid (hM5.out.after hb6)
    have HP6:=Lib.hid (HP5.out.mod ((Mod.refl (fun _=>False) _).after hb6) (fun h=>h))
    have hgB6:w5.heap.size≤w6.heap.size:=hb6.size
    clear hb6 hla5 hcw HP5 hM5 hb5
    go_upto_region 11 with (refine wpList_store_new rfl 51 _ _ rfl rfl rfl _ #[.int .i64 g.e,.int .i64 g.l] _ rfl rfl (pair_one _ _) (wi_size _ _) ?_)
    generalize hbW:w6.heap.size = bW
    refine wp_world' (fun wx=>Blk wx bP #[.int .i64 g.x,.int .i64 g.y] 53∧Blk wx bW #[.int .i64 g.e,.int .i64 g.l] 51∧Mod (fun _=>False) wr wx)
     ⟨HP6.out.alloc _,by rw [← hbW]; exact Blk.new _ _ _,hM6.out.alloc _⟩ ?_
    rintro w7 ⟨hP7,hW7,hM7⟩
    have hlA:=Lib.hid (run_load_row' (P:=Tryz.prog) w7 gA 53 #[.int .i64 ax,.int .i64 ay] 53 _ (hA.mod hM7 (fun h=>h)) Tryz.underlying53 rfl (pl_size _ _))
    have hlP:=Lib.hid (run_load_row' (P:=Tryz.prog) w7 bP 53 #[.int .i64 g.x,.int .i64 g.y] 53 _ hP7 Tryz.underlying53 rfl (pl_size _ _))
    have HP7:=Lib.hid hP7
    have HW7:=Lib.hid hW7
    replace hM7:=Lib.hid hM7
    have hgW:bW < w7.heap.size:=hW7.lt
    clear HP6 hM6 hP7 hW7
    rw [hbW] at hgB6
    clear hbW
    go_wp2_with (first | (refine wpList_load_v rfl 53 _ rfl ⟨gA,0,none⟩ rfl _ hlA.out ?_) | (refine wpList_load_v rfl 53 _ rfl ⟨bP,0,none⟩ rfl _ hlP.out ?_))
    refine (hdc.out _).mono ?_
    rintro e w8 ⟨rfl,hb8⟩
    have hM8:=Lib.hid (hM7.out.after hb8)
    have HP8:=Lib.hid (HP7.out.mod ((Mod.refl (fun _=>False) _).after hb8) (fun h=>h))
    have HW8:=Lib.hid (HW7.out.mod ((Mod.refl (fun _=>False) _).after hb8) (fun h=>h))
    have hgW8:w7.heap.size≤w8.heap.size:=hb8.size
    clear hb8 hM7 HP7 HW7 hlA hlP hdc
    go_upto_region 12 with fail
    generalize hbT:w8.heap.size = bT
    refine wp_world' (fun wx=>Blk wx bP #[.int .i64 g.x,.int .i64 g.y] 53∧Blk wx bW #[.int .i64 g.e,.int .i64 g.l] 51∧Blk wx bT (tmV (now + d,0,0)).toArray 138∧Mod (fun _=>False) wr wx)
     ⟨HP8.out.alloc _,HW8.out.alloc _,by rw [← hbT]; exact Blk.new _ _ _,hM8.out.alloc _⟩ ?_
    rintro w9 ⟨hP9,hW9,hT9,hM9⟩
    have hlW:=Lib.hid (run_load_row' (P:=Tryz.prog) w9 bW 51 #[.int .i64 g.e,.int .i64 g.l] 51 _ hW9 Tryz.underlying51 rfl (wi_size _ _))
    have kT0:w9.cell? ⟨bT,0,none⟩ = some (.int .i64 (now + d)):=hT9.cell (i:=0) rfl
    have HP9:=Lib.hid hP9
    have HT9:=Lib.hid hT9
    replace hM9:=Lib.hid hM9
    rw [hbT] at hgW8
    clear hbT hP9 hT9 hW9 hM8 HP8 HW8
    go_wp2_with (first | (refine wpList_load_v rfl 51 _ rfl ⟨bW,0,none⟩ rfl _ hlW.out ?_))
    refine (hwc.out _).mono ?_
    rintro e w10 ⟨rfl,hb10⟩
    have hM10:=Lib.hid (hM9.out.after hb10)
    have HP10:=Lib.hid (HP9.out.mod ((Mod.refl (fun _=>False) _).after hb10) (fun h=>h))
    have HT10:=Lib.hid (HT9.out.mod ((Mod.refl (fun _=>False) _).after hb10) (fun h=>h))
    clear hb10 hM9 HP9 HT9 hlW hwc kT0
    cases wb with
    | false=>
     have hX3:X = ([],0,9):=by
      have:=hR2.out
      rw [if_neg (by simp)] at this
      rw [hX2.out,this]
      rfl
     subst hX3
     clear hX2 hR2 hR hwnb
     go_wp2_with fail
     go_ret3
     exact tm_none rfl (hbr.trans (hM10.out.below hbr.size (fun _ h=>h.elim)))
    | true=>
     have hwq:=hwnb.out rfl
     clear hwnb
     have hR3:Hid (tmRun t l x y st = (tmRun t (l.drop (k + 1)) g.x g.y (wn + g.s)).map fun q=>((L ++ [(now + d,wn,wn + g.s)]) ++ q.1,q.2)):=Lib.hid (by
      have:=hR2.out
      rw [if_pos rfl,Option.map_map] at this
      rw [this]
      congr 1
      funext q
      simp)
     have s2:IntKind.i64.wrap (wn + g.s) = wn + g.s:=IntWalk.i64_in _ (by omega)
     have s3:IntKind.i64.wrap ((k:Int) + 1) = (k:Int) + 1:=IntWalk.i64_in _ (by omega)
     clear hR2 hR hX2
     have kT1:=HT10.out.cell (i:=1) rfl
     have fT1:=HT10.out.froz 1
     go_upto_region 16 with fail
     refine wp_world' (fun wx=>Blk wx bP #[.int .i64 g.x,.int .i64 g.y] 53∧Blk wx bT (tmV (now + d,wn,0)).toArray 138∧Mod (fun _=>False) wr wx)
      ⟨HP10.out.other (show bP ≠ bT by omega) _,HT10.out.set 1 _,hM10.out.setCell (p:=⟨bT,1,none⟩) (fun h=>absurd (show bT < wr.heap.size from h) (by omega)) _⟩ ?_
     rintro w11 ⟨hP11,hT11,hM11⟩
     have hb11:=Lib.hid (hbr.trans (hM11.below hbr.size (fun _ h=>h.elim)))
     have hl0':=hl0.out w11 hb11.out
     rw [addr_add_add,Nat.add_zero] at hl0'
     have hl9':w11.cell? ⟨(a'.add (n * 10)).block,(a'.add (n * 10)).off + 9,none⟩ = some (.int .i64 g.s):=hl9.out w11 hb11.out
     have HP11:=Lib.hid hP11
     have HT11:=Lib.hid hT11
     have HM11:=Lib.hid hM11
     have kT2:=hT11.cell (i:=2) rfl
     have fT2:=hT11.froz 2
     clear hP11 hT11 hM11 HP10 HT10 hM10 kT1 fT1
     go_upto_region 17 with fail
     refine wp_world' (fun wx=>Blk wx bP #[.int .i64 g.x,.int .i64 g.y] 53∧Blk wx bT (tmV (now + d,wn,wn + g.s)).toArray 138∧Mod (fun _=>False) wr wx)
      ⟨HP11.out.other (show bP ≠ bT by omega) _,HT11.out.set 2 _,HM11.out.setCell (p:=⟨bT,2,none⟩) (fun h=>absurd (show bT < wr.heap.size from h) (by omega)) _⟩ ?_
     rintro w12 ⟨hP12,hT12,hM12⟩
     have hlT:=Lib.hid (run_load_row' (P:=Tryz.prog) w12 bT 138 (tmV (now + d,wn,wn + g.s)).toArray 138 _ hT12 Tryz.underlying138 rfl (tm_size _ _ _))
     have hbr12:=Lib.hid (hbr.trans (hM12.below hbr.size (fun _ h=>h.elim)))
     have hownA:=Lib.hid (own_mod (own_mod hown hM12 (fun _ _ h=>h)) ((Mod.refl (fun _=>False) w12).alloc (.cells (tmV (now + d,wn,wn + g.s)).toArray 138)) (fun _ _ h=>h))
     have hzA:gs≤(w12.alloc (.cells (tmV (now + d,wn,wn + g.s)).toArray 138)).heap.size:=by have:=hM12.size; simp; omega
     have hLl:L.length≤100000:=by omega
     have hPA:=Lib.hid (hP12.alloc (.cells (tmV (now + d,wn,wn + g.s)).toArray 138))
     have hTA:=Lib.hid (hT12.alloc (.cells (tmV (now + d,wn,wn + g.s)).toArray 138))
     have hMA:=Lib.hid (hM12.alloc (.cells (tmV (now + d,wn,wn + g.s)).toArray 138))
     clear hl0' hl9' HP11 HT11 HM11 hb11 kT2 fT2 hP12 hT12 hM12 hl0 hl9 hla
     replace hzA:=Lib.hid hzA
     go_upto_region 18 with (first | (refine wpList_load_v rfl 138 _ rfl ⟨bT,0,none⟩ rfl _ hlT.out ?_) | (refine wpList_bs1 rfl 102 1 0 _ rfl (.agg (tmV (now + d,wn,wn + g.s)).toArray) rfl _ _ (rsl_tm (now + d,wn,wn + g.s) _) ?_) |
      (refine wpList_appG tm_el rfl _ _ rfl gs hzA.out _ L.length _ rfl hownA.out hLl _ 1 1 (tmV (now + d,wn,wn + g.s)) rfl rfl (by omega) (row_cells (Blk.new _ _ _)) (tm_one _) ?_; intro v' w13 hown' hg'))
     have hne:∀ b,wr.heap.size≤b→some b ≠ u10.ownBlock:=fun b hb e=>by have:=(own_blk_lt hown e.symm).2; omega
     have hP13:=blk_grown hPA.out hg' (hne bP (by omega))
     have hT13:=blk_grown hTA.out hg' (hne bT (by omega))
     have hA13:=grown_blk (hA.mod hMA.out (fun h=>h)) hownA.out (by omega) hg'
     have hV13:=grown_blk (hVr.mod hMA.out (fun h=>h)) hownA.out (by omega) hg'
     have hb13:=grown_low (hbr.trans (hMA.out.below hbr.size (fun _ h=>h.elim))) (by omega) (Nat.le_refl _) hownA.out hg'
     have hz13:gs≤w13.heap.size:=Nat.le_trans hzA.out hg'.size
     have kP0:=hP13.cell (i:=0) rfl
     have kP1:=hP13.cell (i:=1) rfl
     have kT2:=hT13.cell (i:=2) rfl
     have kA0:=hA13.cell (i:=0) rfl
     have kA1:=hA13.cell (i:=1) rfl
     have fA0:=hA13.froz 0
     have fA1:=hA13.froz 1
     have HA13:=Lib.hid hA13
     have HV13:=Lib.hid hV13
     have HB13:=Lib.hid hb13
     have HO13:=Lib.hid hown'
     clear hP13 hT13 hA13 hV13 hb13 hown' hg' hPA hTA hMA hownA hzA hlT hbr12 hown hA hVr hbr hne
     go_region
     clear kP0 kP1 kT2 kA0 kA1 fA0 fA1
     go_wp2_with fail
     go_roundw
     case rel=>
      have hmS:Mod (· = gA) w13 ((w13.setCell ⟨gA,0,none⟩ (.int .i64 g.x)).setCell ⟨gA,1,none⟩ (.int .i64 g.y)).drew:=
       (Mod.setCell (Mod.setCell (Mod.refl (· = gA) w13) (p:=⟨gA,0,none⟩) (fun _=>rfl) _) (p:=⟨gA,1,none⟩) (fun _=>rfl) _).drew
      have hO:=own_mod HO13.out hmS (fun b hb e=>by have:=(own_blk_lt HO13.out hb).1; omega)
      have hD:=HB13.out.trans (hmS.below HB13.out.size (fun b e=>by omega))
      refine ⟨k + 1,L ++ [(now + d,wn,wn + g.s)],g.x,g.y,wn + g.s,by omega,by simp,rfl,by omega,by simp; omega,hR3,?_,((HA13.out.set 0 _).set 1 _).drew,HV13.out.mod hmS (by omega),hD,by simpa using hz13⟩
      rw [List.map_append,List.flatten_append,List.length_append]
      simpa using hO
     case measure=>simp [intOf]; omega
   ·obtain rfl:k = l.length:=by omega
    have hR2:tmRun t l x y st = some (L,ax,ay,now):=by
     have:=hR.out
     rw [List.drop_length] at this
     rw [this]
     simp [tmRun]
    have hX3:Hid (X = if en < now + dsP ax ay x y then ([],0,9) else (L,now + dsP ax ay x y,0)):=Lib.hid (by rw [hX2.out,hR2])
    have hds:=dsP_bd ax ay x y
    have hdc:=Lib.hid (fun w=>dist_ref ax ay x y w)
    generalize dsP ax ay x y = d at hX3 hds hdc
    have s1:IntKind.i64.wrap (now + d) = now + d:=IntWalk.i64_in _ (by omega)
    have hlA:=Lib.hid (run_load_row' (P:=Tryz.prog) wr gA 53 #[.int .i64 ax,.int .i64 ay] 53 _ hA Tryz.underlying53 rfl (pl_size _ _))
    have hlH:=Lib.hid (hlh.out wr hVr)
    clear hR hR2 hX2 hp hwi hlh hA
    go_wp2_with (first | (refine wpList_load_v rfl 53 _ rfl ⟨gA,0,none⟩ rfl _ hlA.out ?_) | (refine wpList_load_v rfl 53 _ rfl ⟨w.heap.size,0,none⟩ rfl _ hlH.out ?_))
    refine (hdc.out _).mono ?_
    rintro e w4 ⟨rfl,hb4⟩
    have hown4:=Lib.hid (own_below hown hb4)
    have k4:=(hVr.mod ((Mod.refl (fun _=>False) _).after hb4) (fun h=>h)).cell g4
    have hbe:=Lib.hid (hbr.trans (hb4.mono hbr.size))
    clear hown hVr hbr hb4 hlA hlH hdc
    by_cases hlate:en < now + d
    ·obtain rfl:X = ([],0,9):=by rw [hX3.out,if_pos hlate]
     clear hX3
     go_wp2_with fail
     go_ret3
     exact tm_none rfl hbe.out
    ·obtain rfl:X = (L,now + d,0):=by rw [hX3.out,if_neg hlate]
     clear hX3
     go_wp2_with fail
     go_ret3
     obtain ⟨p0,m0,c0,rfl⟩:=own_isS hown4.out
     have hEl:=own_els (tmV_len L) (by simpa using hown4.out) (by simp; omega)
     simp only [List.length_map] at hEl
     obtain ⟨h1,rfl,h3,h4⟩:=hEl
     exact ⟨p0,c0,rfl,hbe.out,h1,h3,own_cap hown4.out,fun a ha=>⟨by have:=(h4 a ha).1; omega,(h4 a ha).2.2⟩⟩
 ·have hX2:X = ([],0,wr):=hX.out.trans (if_pos v0)
  have d1:(wr == 0) = false:=beq_eq_false_iff_ne.2 v0
  have d2:(wr != 0) = true:=by rw [bne,d1]; rfl
  subst hX2
  clear hX hz
  go_wp2_with fail
  go_ret3
  exact tm_none rfl hb2
end
end
end Go.Proofs.YtkaoflndbcfodaaGreat
