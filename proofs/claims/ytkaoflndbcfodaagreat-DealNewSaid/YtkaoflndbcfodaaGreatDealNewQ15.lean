/-
  The row 'DealNew': a pack of the texts Rc9, pruned to what the row uses.
-/
import Derived.Test.YtkaoflndbcfodaaGreatDealNewQ14
namespace Go.Proofs.YtkaoflndbcfodaaGreat
set_option maxHeartbeats 8000000
set_option maxRecDepth 100000
section
section
open Go.RowKit
theorem place9_calls (p:Option Addr) (cap:Nat) (t:List Rq) (n:Nat) (k:Int) (w:World) (hE:Els w p 10 (t.map rqV)) (hn:n < t.length):
  Calls Tryz.prog 149 #[.agg #[.int .i64 (n:Int),.int .i64 k],.slice p t.length cap] w fun e w'=>e = .returned (.agg #[.int .i64 (gX k (t.getD n rqZ0)),.int .i64 (gY k (t.getD n rqZ0))])∧Below w.heap.size w w':=by
 have hbig:t.length≤140737488351232:=by simpa using hE.big
 obtain ⟨a,rfl⟩:=hE.some_of (k:=n) (by simpa using hn)
 have hl0:=Lib.hid (fun wx (hb:Below w.heap.size w wx)=>(hE.below hb).part (P:=Tryz.prog) (a:=a) rfl (k:=n) (by simpa using hn) 0 [.int .i64 (t[n] 0),.int .i64 (t[n] 1)] (fun j v h=>by rw [List.getElem_map]; match j,h with | 0,h=>exact h | 1,h=>exact h | j + 2,h=>simp at h) (ty:=53) Tryz.underlying53 rfl (by kernel_rfl))
 have hl1:=Lib.hid (fun wx (hb:Below w.heap.size w wx)=>(hE.below hb).part (P:=Tryz.prog) (a:=a) rfl (k:=n) (by simpa using hn) 2 [.int .i64 (t[n] 2),.int .i64 (t[n] 3)] (fun j v h=>by rw [List.getElem_map]; match j,h with | 0,h=>exact h | 1,h=>exact h | j + 2,h=>simp at h) (ty:=53) Tryz.underlying53 rfl (by kernel_rfl))
 rw [getD_at t hn]
 generalize t[n] = q at hl0 hl1 ⊢
 obtain ⟨X,hX⟩:∃ X,gX k q = X:=⟨_,rfl⟩
 obtain ⟨Y,hY⟩:∃ Y,gY k q = Y:=⟨_,rfl⟩
 rw [hX,hY]
 replace hX:=Lib.hid hX
 replace hY:=Lib.hid hY
 have hnI:(n:Int) < t.length:=by omega
 replace hE:=Lib.hid hE
 go_enter Tryz.func149,Tryz.ntmps149
 go_upto_region 1 with fail
 refine wp_world' (fun wx=>Blk wx w.heap.size #[.int .i64 (n:Int),.int .i64 k] 125∧Blk wx (w.heap.size + 1) #[.int .i64 0,.int .i64 0] 53∧Below w.heap.size w wx)
  ⟨(Blk.new w _ _).alloc _,Blk.new' w _ _ _,((Below.refl _ _).alloc (Nat.le_refl _) _).alloc (by simp) _⟩ ?_
 rintro w1 ⟨hS,hZ,hb⟩
 have k0:w1.cell? ⟨w.heap.size,0,none⟩ = some (.int .i64 (n:Int)):=hS.cell (i:=0) rfl
 have k1:w1.cell? ⟨w.heap.size,1,none⟩ = some (.int .i64 k):=hS.cell (i:=1) rfl
 have HZ:=Lib.hid hZ
 have hl0':=Lib.hid (hl0.out w1 hb)
 have hl1':=Lib.hid (hl1.out w1 hb)
 clear hS hZ hl0 hl1
 have hfin:∀ {X:World},Mod (· = w.heap.size + 1) w1 X→Below w.heap.size w X:=fun h=>hb.trans (h.below hb.size (fun x hx=>by omega))
 by_cases e0:k = 0
 ·subst e0
  obtain rfl:=hX.out.symm.trans (if_pos rfl)
  obtain rfl:=hY.out.symm.trans (if_pos rfl)
  clear hX hY
  go_upto_region 2 with fail
  go_wp2_with (first | (refine wpList_load_v rfl 53 _ rfl ((a.add (n * 10)).add 0) rfl _ hl0'.out ?_) | (refine wpList_store_row2 rfl 53 _ _ rfl rfl (w.heap.size + 1) rfl #[.int .i64 0,.int .i64 0] #[.int .i64 (q 0),.int .i64 (q 1)] 53 HZ.out rfl rfl (pair_one _ _) (pl_size _ _) ?_; intro wz hBz hmz))
  exact bodyPost_ret (results_cell_row rfl _ _ (w.heap.size + 1) _ _ _ _ rfl hBz Tryz.underlying53 rfl (pl_size _ _)) rfl ⟨rfl,hfin hmz⟩
 ·have d0:(k == 0) = false:=beq_eq_false_iff_ne.2 e0
  obtain rfl:=hX.out.symm.trans (if_neg e0)
  obtain rfl:=hY.out.symm.trans (if_neg e0)
  clear hX hY
  go_upto_region 3 with fail
  go_wp2_with (first | (refine wpList_load_v rfl 53 _ rfl ((a.add (n * 10)).add 2) rfl _ hl1'.out ?_) | (refine wpList_store_row2 rfl 53 _ _ rfl rfl (w.heap.size + 1) rfl #[.int .i64 0,.int .i64 0] #[.int .i64 (q 2),.int .i64 (q 3)] 53 HZ.out rfl rfl (pair_one _ _) (pl_size _ _) ?_; intro wz hBz hmz))
  exact bodyPost_ret (results_cell_row rfl _ _ (w.heap.size + 1) _ _ _ _ rfl hBz Tryz.underlying53 rfl (pl_size _ _)) rfl ⟨rfl,hfin hmz⟩
theorem window9_calls (p:Option Addr) (cap:Nat) (t:List Rq) (n:Nat) (k:Int) (w:World) (hE:Els w p 10 (t.map rqV)) (hn:n < t.length):
  Calls Tryz.prog 148 #[.agg #[.int .i64 (n:Int),.int .i64 k],.slice p t.length cap] w fun e w'=>e = .returned (.agg #[.int .i64 (gE k (t.getD n rqZ0)),.int .i64 (gL k (t.getD n rqZ0))])∧Below w.heap.size w w':=by
 have hbig:t.length≤140737488351232:=by simpa using hE.big
 obtain ⟨a,rfl⟩:=hE.some_of (k:=n) (by simpa using hn)
 have hl0:=Lib.hid (fun wx (hb:Below w.heap.size w wx)=>(hE.below hb).part (P:=Tryz.prog) (a:=a) rfl (k:=n) (by simpa using hn) 4 [.int .i64 (t[n] 4),.int .i64 (t[n] 5)] (fun j v h=>by rw [List.getElem_map]; match j,h with | 0,h=>exact h | 1,h=>exact h | j + 2,h=>simp at h) (ty:=51) Tryz.underlying51 rfl (by kernel_rfl))
 have hl1:=Lib.hid (fun wx (hb:Below w.heap.size w wx)=>(hE.below hb).part (P:=Tryz.prog) (a:=a) rfl (k:=n) (by simpa using hn) 6 [.int .i64 (t[n] 6),.int .i64 (t[n] 7)] (fun j v h=>by rw [List.getElem_map]; match j,h with | 0,h=>exact h | 1,h=>exact h | j + 2,h=>simp at h) (ty:=51) Tryz.underlying51 rfl (by kernel_rfl))
 rw [getD_at t hn]
 generalize t[n] = q at hl0 hl1 ⊢
 obtain ⟨X,hX⟩:∃ X,gE k q = X:=⟨_,rfl⟩
 obtain ⟨Y,hY⟩:∃ Y,gL k q = Y:=⟨_,rfl⟩
 rw [hX,hY]
 replace hX:=Lib.hid hX
 replace hY:=Lib.hid hY
 have hnI:(n:Int) < t.length:=by omega
 replace hE:=Lib.hid hE
 go_enter Tryz.func148,Tryz.ntmps148
 go_upto_region 1 with fail
 refine wp_world' (fun wx=>Blk wx w.heap.size #[.int .i64 (n:Int),.int .i64 k] 125∧Blk wx (w.heap.size + 1) #[.int .i64 0,.int .i64 0] 51∧Below w.heap.size w wx)
  ⟨(Blk.new w _ _).alloc _,Blk.new' w _ _ _,((Below.refl _ _).alloc (Nat.le_refl _) _).alloc (by simp) _⟩ ?_
 rintro w1 ⟨hS,hZ,hb⟩
 have k0:w1.cell? ⟨w.heap.size,0,none⟩ = some (.int .i64 (n:Int)):=hS.cell (i:=0) rfl
 have k1:w1.cell? ⟨w.heap.size,1,none⟩ = some (.int .i64 k):=hS.cell (i:=1) rfl
 have HZ:=Lib.hid hZ
 have hl0':=Lib.hid (hl0.out w1 hb)
 have hl1':=Lib.hid (hl1.out w1 hb)
 clear hS hZ hl0 hl1
 have hfin:∀ {X:World},Mod (· = w.heap.size + 1) w1 X→Below w.heap.size w X:=fun h=>hb.trans (h.below hb.size (fun x hx=>by omega))
 by_cases e0:k = 0
 ·subst e0
  obtain rfl:=hX.out.symm.trans (if_pos rfl)
  obtain rfl:=hY.out.symm.trans (if_pos rfl)
  clear hX hY
  go_upto_region 2 with fail
  go_wp2_with (first | (refine wpList_load_v rfl 51 _ rfl ((a.add (n * 10)).add 4) rfl _ hl0'.out ?_) | (refine wpList_store_row2 rfl 51 _ _ rfl rfl (w.heap.size + 1) rfl #[.int .i64 0,.int .i64 0] #[.int .i64 (q 4),.int .i64 (q 5)] 51 HZ.out rfl rfl (pair_one _ _) (wi_size _ _) ?_; intro wz hBz hmz))
  exact bodyPost_ret (results_cell_row rfl _ _ (w.heap.size + 1) _ _ _ _ rfl hBz Tryz.underlying51 rfl (wi_size _ _)) rfl ⟨rfl,hfin hmz⟩
 ·have d0:(k == 0) = false:=beq_eq_false_iff_ne.2 e0
  obtain rfl:=hX.out.symm.trans (if_neg e0)
  obtain rfl:=hY.out.symm.trans (if_neg e0)
  clear hX hY
  go_upto_region 3 with fail
  go_wp2_with (first | (refine wpList_load_v rfl 51 _ rfl ((a.add (n * 10)).add 6) rfl _ hl1'.out ?_) | (refine wpList_store_row2 rfl 51 _ _ rfl rfl (w.heap.size + 1) rfl #[.int .i64 0,.int .i64 0] #[.int .i64 (q 6),.int .i64 (q 7)] 51 HZ.out rfl rfl (pair_one _ _) (wi_size _ _) ?_; intro wz hBz hmz))
  exact bodyPost_ret (results_cell_row rfl _ _ (w.heap.size + 1) _ _ _ _ rfl hBz Tryz.underlying51 rfl (wi_size _ _)) rfl ⟨rfl,hfin hmz⟩
theorem many9_calls (p:Option Addr) (cap:Nat) (l:List (Int × Int)) (r q:Int) (w:World) (hE:Els w p 2 (l.map stV)):
  Calls Tryz.prog 156 #[.slice p l.length cap,.agg #[.int .i64 r,.int .i64 q]] w fun e w'=>e = .returned (.int .i64 (l.count (r,q)))∧Below w.heap.size w w':=by
 have hbig:l.length≤140737488351232:=by simpa using hE.big
 replace hE:=Lib.hid hE
 go_enter Tryz.func156,Tryz.ntmps156
 go_upto_region 1 with fail
 refine wp_world' (fun wx=>Blk wx w.heap.size #[.int .i64 r,.int .i64 q] 125∧Below w.heap.size w wx) ⟨Blk.new _ _ _,new_below _ _⟩ ?_
 rintro w1 ⟨hB1,hb1⟩
 have HB1:=Lib.hid hB1
 clear hB1
 go_wp2_with fail
 go_loopw [5,6] (fun n i wr=>∃ k:Nat,k≤l.length∧i = .int .i64 k∧n = .int .i64 ((l.take k).count (r,q))∧∃ m,wr = w1.drewN m) (fun _ i _=>l.length - (intOf i).toNat)
 case atStart=>exact ⟨0,Nat.zero_le _,rfl,by simp,0,rfl⟩
 case round=>
  obtain ⟨k,hk,rfl,rfl,m,rfl⟩:=hrel
  by_cases hlt:k < l.length
  ·have hltI:(k:Int) < (l.length:Int):=by omega
   have hk0:(0:Int)≤(k:Int):=by omega
   obtain ⟨a,rfl⟩:=(hE.out.below (Below.refl _ w)).some_of (k:=k) (by simpa using hlt)
   have hla:=Lib.hid (fun n=>(hE.out.below (below_drewN hb1 n)).load (P:=Tryz.prog) (a:=a) rfl (k:=k) (by simpa using hlt) (ty:=125) Tryz.underlying125 rfl (by kernel_rfl))
   have hlb:=Lib.hid (fun n=>run_load_row' (P:=Tryz.prog) (w1.drewN n) w.heap.size 125 #[.int .i64 r,.int .i64 q] 125 _ HB1.out Tryz.underlying125 rfl (by kernel_rfl))
   have hne:=Lib.hid (fun w=>eql_stop w l[k].1 l[k].2 r q)
   have hcn:(l.take (k + 1)).count (r,q) = (l.take k).count (r,q) + if l[k] = (r,q) then 1 else 0:=by
    rw [List.take_succ_eq_append_getElem hlt,List.count_append,List.count_singleton]
    simp only [beq_iff_eq]
   have hcb:(l.take k).count (r,q)≤k:=Nat.le_trans List.count_le_length (by rw [List.length_take]; omega)
   have s1:IntKind.i64.wrap ((k:Int) + 1) = (k:Int) + 1:=IntWalk.i64_in _ (by omega)
   have s2:IntKind.i64.wrap (((l.take k).count (r,q):Nat) + (1:Int)) = ((l.take k).count (r,q):Nat) + (1:Int):=IntWalk.i64_in _ (by omega)
   rw [stop_eq] at hne
   have hgf:decide (l[k] = (r,q)) = false→(l.take (k + 1)).count (r,q) = (l.take k).count (r,q):=fun h=>by rw [hcn,if_neg (of_decide_eq_false h)]; rfl
   have hgt:decide (l[k] = (r,q)) = true→(l.take (k + 1)).count (r,q) = (l.take k).count (r,q) + 1:=fun h=>by rw [hcn,if_pos (of_decide_eq_true h)]
   replace hgf:=Lib.hid hgf
   replace hgt:=Lib.hid hgt
   clear hcn
   generalize decide (l[k] = (r,q)) = g at hne hgf hgt
   go_upto_region 5 with fail
   refine wp_region_quiet_lit (by kernel_rfl) (by kernel_rfl) ?_
   go_big_quiet_step (fail)
   go_big_quiet_step (fail)
   go_big_quiet_step (fail)
   refine wpQuiet_v rfl (.agg #[.int .i64 l[k].1,.int .i64 l[k].2]) (by rintro _ ⟨j,rfl⟩; rw [World.drewN_drewN]; exact run_load_v rfl rfl ((hla.out _).trans (by rw [List.getElem_map]; rfl))) ?_
   simp only [Act.put,List.setIfInBounds_toArray,List.set_cons_succ,List.set_cons_zero]
   refine wpQuiet_v rfl (.agg #[.int .i64 r,.int .i64 q]) (by rintro _ ⟨j,rfl⟩; rw [World.drewN_drewN]; exact run_load_v rfl rfl (hlb.out _)) ?_
   simp only [Act.put,List.setIfInBounds_toArray,List.set_cons_succ,List.set_cons_zero]
   refine wpQuiet_v rfl (.bool g) (by rintro _ ⟨j,rfl⟩; exact run_bin_v rfl rfl rfl (by kernel_rfl) (hne.out _)) ?_
   simp only [Act.put,List.setIfInBounds_toArray,List.set_cons_succ,List.set_cons_zero]
   refine wpQuiet_nil ?_
   rintro _ ⟨j,rfl⟩
   rw [World.drewN_drewN]
   cases g
   ·have HF:=Lib.hid (hgf.out rfl)
    clear hgf hgt
    go_wp2
    go_roundw
    case rel=>exact ⟨k + 1,by omega,by simp,by rw [HF.out],_,rfl⟩
    case measure=>simp [intOf]; omega
   ·have HF:=Lib.hid (hgt.out rfl)
    clear hgf hgt
    go_wp2
    go_roundw
    case rel=>exact ⟨k + 1,by omega,by simp,by rw [HF.out]; simp,_,rfl⟩
    case measure=>simp [intOf]; omega
  ·obtain rfl:k = l.length:=by omega
   rw [List.take_length]
   go_wp2
   go_ret
   exact ⟨rfl,below_drewN hb1 _⟩
theorem addr9_at (b:Addr) (n:Nat):b.add (n + 1) = ⟨b.block,b.off + (n + 1),none⟩:=by unfold Addr.add; simp
theorem addr9_0 (b:Addr) (n:Nat):(b.add n).add 0 = b.add n:=by unfold Addr.add; simp
def stand9 (l:List (Int × Int)) (t:List Rq):Prop:=∀ s ∈ l,0≤s.1∧s.1 < t.length∧(s.2 = 0∨s.2 = 1)
theorem board9_calls (p p':Option Addr) (cap cap':Nat) (l:List (Int × Int)) (t:List Rq) (w:World) (hE:Els w p 2 (l.map stV)) (hT:Els w p' 10 (t.map rqV)) (hs:stand9 l t) (ht:∀ q ∈ t,rqE q = 0) (hk:knownS l t) (hl:l.length≤100):
  Calls Tryz.prog 133 #[.slice p l.length cap,.slice p' t.length cap'] w fun e w'=>e = .returned (.int .i64 (onK l t l.length))∧Below w.heap.size w w':=by
 have hbt:t.length≤140737488351232:=by simpa using hT.big
 replace hE:=Lib.hid hE
 replace hT:=Lib.hid hT
 replace hs:=Lib.hid hs
 replace ht:=Lib.hid ht
 have hbd:=Lib.hid (onK_bd hk)
 clear hk
 go_enter Tryz.func133,Tryz.ntmps133
 go_wp2_with fail
 go_loopw [5,6] (fun n i wr=>∃ k:Nat,k≤l.length∧i = .int .i64 k∧n = .int .i64 (onK l t k)∧wr = w) (fun _ i _=>l.length - (intOf i).toNat)
 case atStart=>exact ⟨0,Nat.zero_le _,rfl,by rw [onK_zero],rfl⟩
 case round=>
  obtain ⟨k,hk,rfl,rfl,rfl⟩:=hrel
  by_cases hlt:k < l.length
  ·have hltI:(k:Int) < (l.length:Int):=by omega
   obtain ⟨a,rfl⟩:=hE.out.some_of (k:=k) (by simpa using hlt)
   obtain ⟨h1,h2,h3⟩:=hs.out _ (List.getElem_mem hlt)
   have e0:=hE.out.one (a:=a) rfl (k:=k) (by simpa using hlt) 0 (.int .i64 (l[k].1)) (by rw [List.getElem_map]; rfl)
   have e1:=hE.out.one (a:=a) rfl (k:=k) (by simpa using hlt) 1 (.int .i64 (l[k].2)) (by rw [List.getElem_map]; rfl)
   have hst:=onK_succ l t hlt
   have hb1:=hbd.out (k + 1) (by omega)
   have hb0:=hbd.out k (by omega)
   have hsg:sgL t l[k] = (if l[k].2 = 0 then 1 else -1) * t.getD l[k].1.toNat rqZ0 8:=rfl
   obtain ⟨r,q,hrq⟩:∃ r q,l[k] = (r,q):=⟨_,_,rfl⟩
   rw [hrq] at e0 e1 h1 h2 h3 hst hsg
   simp only at e0 e1 h1 h2 h3 hsg
   rw [addr9_0] at e0
   rw [addr9_at _ 0] at e1
   obtain ⟨n,rfl⟩:=Int.eq_ofNat_of_zero_le h1
   have hn:n < t.length:=by omega
   obtain ⟨a',rfl⟩:=hT.out.some_of (k:=n) (by simpa using hn)
   have e4:=hT.out.one (a:=a') rfl (k:=n) (by simpa using hn) 8 (.int .i64 (t[n] 8)) (by rw [List.getElem_map]; rfl)
   rw [Int.toNat_natCast,getD_at t hn] at hsg
   rw [addr9_at _ 7] at e4
   have s1:IntKind.i64.wrap ((k:Int) + 1) = (k:Int) + 1:=IntWalk.i64_in _ (by omega)
   have hnI:(n:Int) < t.length:=by omega
   generalize t[n] = Q at e4 hsg
   generalize onK l t k = b0 at *
   rcases h3 with rfl | rfl
   ·rw [if_pos rfl] at hsg
    have hst':onK l t (k + 1) = b0 + Q 8:=by omega
    have s2:IntKind.i64.wrap (b0 + Q 8) = b0 + Q 8:=IntWalk.i64_in _ (by omega)
    replace hst':=Lib.hid hst'
    clear hsg hst hb1
    go_wp2_with fail
    go_roundw
    case rel=>exact ⟨k + 1,by omega,by simp,by rw [hst'.out],trivial⟩
    case measure=>simp [intOf]; omega
   ·rw [if_neg (by omega)] at hsg
    have hst':onK l t (k + 1) = b0 - Q 8:=by omega
    have s2:IntKind.i64.wrap (b0 - Q 8) = b0 - Q 8:=IntWalk.i64_in _ (by omega)
    replace hst':=Lib.hid hst'
    clear hsg hst hb1
    go_wp2_with fail
    go_roundw
    case rel=>exact ⟨k + 1,by omega,by simp,by rw [hst'.out],trivial⟩
    case measure=>simp [intOf]; omega
  ·obtain rfl:k = l.length:=by omega
   go_wp2_with fail
   go_ret
   exact ⟨rfl,Below.refl _ _⟩
section
variable {ρ:Operand→Value} {o:Oper} {w:World} {x y:Operand}
theorem run_ixSt9 {a:Addr} {n c k:Nat} (ho:o.op = .indexAddr 82 x y) (hx:ρ x = .slice (some a) n c) (hy:ρ y = .int .i64 k) (hk:k < n):(execOp ρ o).run Tryz.prog w = .ok (.value (.pointer (some (a.add (k * 2))))) w:=by
 have h0:(0:Int)≤(k:Int):=by omega
 have h1:(k:Int) < (n:Int):=by omega
 have h2:((k:Int)).toNat = k:=by omega
 unfold execOp
 simp only [ho,hx,hy]
 go_simp
theorem run_fieldE9 {a b:Int} (ho:o.op = .field 51 x 0) (hx:ρ x = .agg #[.int .i64 a,.int .i64 b]):(execOp ρ o).run Tryz.prog w = .ok (.value (.int .i64 a)) w:=by
 have h:(Instr.field 51 (.agg #[.int .i64 a,.int .i64 b]) 0).run Tryz.prog w = .ok (.int .i64 a) w:=by kernel_rfl
 unfold execOp
 simp only [ho,hx,Sem.run_bind,h,Result.andThen_ok,Sem.run_pure]
theorem run_fieldL9 {a b:Int} (ho:o.op = .field 51 x 1) (hx:ρ x = .agg #[.int .i64 a,.int .i64 b]):(execOp ρ o).run Tryz.prog w = .ok (.value (.int .i64 b)) w:=by
 have h:(Instr.field 51 (.agg #[.int .i64 a,.int .i64 b]) 1).run Tryz.prog w = .ok (.int .i64 b) w:=by kernel_rfl
 unfold execOp
 simp only [ho,hx,Sem.run_bind,h,Result.andThen_ok,Sem.run_pure]
theorem run_i64S9 {p:Addr} {n:Int} (hc:w.cell? p = some (.int .i64 n)):(loadVar 3 p).run Tryz.prog w = .ok (.int .i64 n) w:=by go_simp
theorem run_fldS9 {a:Addr} (ho:o.op = .fieldAddr 125 x 0) (hx:ρ x = .pointer (some a)):(execOp ρ o).run Tryz.prog w = .ok (.value (.pointer (some (a.add 0)))) w:=by
 unfold execOp
 simp only [ho,hx]
 go_simp
end
theorem lv_bd {t:List Rq} (ht:∀ q ∈ t,rqE q = 0) {l:List (Int × Int)} (hs:stand9 l t) (x y:Int) {st:Int} (h0:0≤st∧st≤1048576):∀ k,k≤l.length→0≤(lvRun t (l.take k) x y st).2.2∧(lvRun t (l.take k) x y st).2.2≤1048576 + 4000 * (k:Int)
 | 0,_=>by
  rw [List.take_zero]
  show 0≤st∧st≤_
  omega
 | k + 1,hk=>by
  have ih:=lv_bd ht hs x y h0 k (by omega)
  have hlt:k < l.length:=by omega
  rw [lvRun_take t l hlt]
  dsimp only
  obtain ⟨a,b,c⟩:=hs _ (List.getElem_mem hlt)
  have hn:l[k].1.toNat < t.length:=by omega
  have hq:=rqE_all (ht (t.getD l[k].1.toNat rqZ0) (by rw [getD_at t hn]; exact List.getElem_mem hn))
  have hd:=dsP_bd (lvRun t (l.take k) x y st).1 (lvRun t (l.take k) x y st).2.1 (gX l[k].2 (t.getD l[k].1.toNat rqZ0)) (gY l[k].2 (t.getD l[k].1.toNat rqZ0))
  have hE:0≤gE l[k].2 (t.getD l[k].1.toNat rqZ0)∧gE l[k].2 (t.getD l[k].1.toNat rqZ0)≤1048576:=by
   unfold gE
   split <;> omega
  unfold gB mx
  split <;> omega
theorem leaves9_calls (x y cp st en:Int) (p p':Option Addr) (cap cap':Nat) (l:List (Int × Int)) (t:List Rq) (w:World) (hL:Els w p 2 (l.map stV)) (hT:Els w p' 10 (t.map rqV)) (hs:stand9 l t) (ht:∀ q ∈ t,rqE q = 0) (hl:l.length≤16) (hst:0≤st∧st≤1048576):
  Calls Tryz.prog 134 #[.agg #[.int .i64 x,.int .i64 y,.int .i64 cp,.int .i64 st,.int .i64 en],.slice p l.length cap,.slice p' t.length cap'] w fun e w'=>e = .returned (.tuple #[.agg #[.int .i64 (lvRun t l x y st).1,.int .i64 (lvRun t l x y st).2.1],.int .i64 (lvRun t l x y st).2.2])∧Below w.heap.size w w':=by
 have hbt:t.length≤140737488351232:=by simpa using hT.big
 have hbd:=Lib.hid (lv_bd ht hs x y hst)
 have hstp:=Lib.hid (fun (k:Nat) (hk:k < l.length)=>lvRun_take t l hk x y st)
 have hpl:=Lib.hid (fun wx (n:Nat) (k:Int) (hn:n < t.length) (h:Below w.heap.size w wx)=>place9_calls p' cap' t n k wx (hT.below h) hn)
 have hwi:=Lib.hid (fun wx (n:Nat) (k:Int) (hn:n < t.length) (h:Below w.heap.size w wx)=>window9_calls p' cap' t n k wx (hT.below h) hn)
 have hend:lvRun t l x y st = lvRun t (l.take l.length) x y st:=by rw [List.take_length]
 have h00:lvRun t (l.take 0) x y st = (x,y,st):=by rw [List.take_zero]; rfl
 rw [hend]
 generalize hF:(fun k=>lvRun t (l.take k) x y st) = F at hbd hstp ⊢
 have hF2:∀ k,lvRun t (l.take k) x y st = F k:=fun k=>congrFun hF k
 simp only [hF2] at hbd hstp h00 ⊢
 replace hL:=Lib.hid hL
 replace hT:=Lib.hid hT
 replace hs:=Lib.hid hs
 replace ht:=Lib.hid ht
 replace h00:=Lib.hid h00
 clear hend hF2 hF
 obtain ⟨ln,hln⟩:∃ ln,l.length = ln:=⟨_,rfl⟩
 rw [hln] at hl ⊢
 obtain ⟨T,hTT⟩:∃ T,t.length = T:=⟨_,rfl⟩
 rw [hTT] at hpl hwi hbt ⊢
 replace hTT:=Lib.hid hTT
 replace hln:=Lib.hid hln
 obtain ⟨V,hV⟩:∃ V:Array Value,#[.int .i64 x,.int .i64 y,.int .i64 cp,.int .i64 st,.int .i64 en] = V:=⟨_,rfl⟩
 have g0:V[0]? = some (.int .i64 x):=by rw [← hV]; rfl
 have g1:V[1]? = some (.int .i64 y):=by rw [← hV]; rfl
 have g3:V[3]? = some (.int .i64 st):=by rw [← hV]; rfl
 rw [hV]
 clear hV
 go_enter Tryz.func134,Tryz.ntmps134
 go_upto_region 1 with fail
 refine wp_world' (fun wx=>Blk wx w.heap.size V 59∧Blk wx (w.heap.size + 1) #[.int .i64 0,.int .i64 0] 53∧Below w.heap.size w wx)
  ⟨(Blk.new w _ _).alloc _,Blk.new' w _ _ _,((Below.refl _ _).alloc (Nat.le_refl _) _).alloc (by simp) _⟩ ?_
 rintro w1 ⟨hB,hR,hb⟩
 have HB:=Lib.hid hB
 have HR:=Lib.hid hR
 have k3:=hB.cell g3
 have k0:=hB.cell g0
 have k1:=hB.cell g1
 have k3':=(hB.alloc (.cells #[.int .i64 0,.int .i64 0] 53)).cell g3
 have k0':=(hB.alloc (.cells #[.int .i64 0,.int .i64 0] 53)).cell g0
 have k1':=(hB.alloc (.cells #[.int .i64 0,.int .i64 0] 53)).cell g1
 have k3'':=(hB.alloc (.cells #[.int .i64 x,.int .i64 y] 53)).cell g3
 clear hB hR
 go_region
 go_upto_region 2 with fail
 refine wp_world' (fun wx=>Blk wx (w.heap.size + 1) #[.int .i64 0,.int .i64 0] 53∧Blk wx w1.heap.size #[.int .i64 x,.int .i64 y] 53∧Below w.heap.size w wx)
  ⟨(HR.out.alloc _).drew,(Blk.new _ _ _).drew,(hb.alloc hb.size _).drew⟩ ?_
 rintro w3 ⟨hR3,hA3,hb3⟩
 have hgR:w.heap.size + 1 < w1.heap.size:=HR.out.lt
 clear k0 k1 k3 k0' k1' k3' k3'' HB HR hb g0 g1 g3
 generalize w1.heap.size = gA at *
 go_wp2_with fail
 go_loopw [9,10] (fun nw i wr=>∃ (k:Nat) (ax ay now:Int),k≤ln∧i = .int .i64 k∧nw = .int .i64 now∧Hid (F k = (ax,ay,now))∧
  Blk wr (w.heap.size + 1) #[.int .i64 0,.int .i64 0] 53∧Blk wr gA #[.int .i64 ax,.int .i64 ay] 53∧Below w.heap.size w wr) (fun _ i _=>ln - (intOf i).toNat)
 case atStart=>exact ⟨0,x,y,st,Nat.zero_le _,rfl,rfl,h00,hR3,hA3,hb3⟩
 case round=>
  clear hR3 hA3 hb3
  obtain ⟨k,ax,ay,now,hk,rfl,rfl,hFk,hR,hA,hbr⟩:=hrel
  by_cases hlt:k < ln
  ·have hltI:(k:Int) < (ln:Int):=by omega
   have hltL:k < l.length:=by rw [hln.out]; exact hlt
   obtain ⟨a,rfl⟩:=(hL.out.below hbr).some_of (k:=k) (by simpa using hltL)
   have hla:=Lib.hid (fun wx (h:Below w.heap.size w wx)=>(hL.out.below h).load (P:=Tryz.prog) (a:=a) rfl (k:=k) (by simpa using hltL) (ty:=125) Tryz.underlying125 rfl (by kernel_rfl))
   have hl0:=Lib.hid (fun wx (h:Below w.heap.size w wx)=>(hL.out.below h).one (a:=a) rfl (k:=k) (by simpa using hltL) 0 (.int .i64 (l[k].1)) (by rw [List.getElem_map]; rfl))
   obtain ⟨h1,h2,h3⟩:=hs.out _ (List.getElem_mem hltL)
   have hst:=hstp.out k hltL
   have hb1:=hbd.out k (by omega)
   rw [List.getElem_map] at hla
   obtain ⟨r,q,hrq⟩:∃ r q,l[k] = (r,q):=⟨_,_,rfl⟩
   rw [hrq] at hla hl0 h1 h2 h3 hst
   rw [hFk.out] at hst hb1
   simp only at h1 h2 h3 hst hl0 hb1
   obtain ⟨n,rfl⟩:=Int.eq_ofNat_of_zero_le h1
   have hnT:n < t.length:=by omega
   have hn:n < T:=by rw [← hTT.out]; exact hnT
   obtain ⟨a',rfl⟩:=(hT.out.below hbr).some_of (k:=n) (by simpa using hnT)
   have hl9:=Lib.hid (fun wx (h:Below w.heap.size w wx)=>(hT.out.below h).one (a:=a') rfl (k:=n) (by simpa using hnT) 9 (.int .i64 (t[n] 9)) (by rw [List.getElem_map]; rfl))
   have hcp:=Lib.hid (fun wx (h:Below w.heap.size w wx)=>hpl.out wx n q hn h)
   have hcw:=Lib.hid (fun wx (h:Below w.heap.size w wx)=>hwi.out wx n q hn h)
   have hq:=rqE_all (ht.out t[n] (List.getElem_mem hnT))
   rw [Int.toNat_natCast] at hst
   rw [← getD_at t hnT] at hl9 hq
   generalize t.getD n rqZ0 = Q at hst hcp hcw hl9 hq
   have hE:0≤gE q Q∧gE q Q≤1048576:=by
    unfold gE
    split <;> omega
   have hds:=dsP_bd ax ay (gX q Q) (gY q Q)
   have hdc:=Lib.hid (fun w=>dist_ref ax ay (gX q Q) (gY q Q) w)
   have hB:gB q Q ax ay now = if now + dsP ax ay (gX q Q) (gY q Q) < gE q Q then gE q Q else now + dsP ax ay (gX q Q) (gY q Q):=rfl
   generalize dsP ax ay (gX q Q) (gY q Q) = d at hds hdc hB
   generalize gB q Q ax ay now = b at hst hB
   generalize gX q Q = px at hst hcp hdc
   generalize gY q Q = py at hst hcp hdc
   generalize gE q Q = e at hE hB hcw
   generalize gL q Q = la at hcw
   have hbb:0≤b∧b≤3000000:=by rw [hB]; split <;> omega
   obtain ⟨sv,hsv⟩:∃ sv,Q 9 = sv:=⟨_,rfl⟩
   rw [hsv] at hst hl9 hq
   have hqs:=hq.2.2.2
   have s1:IntKind.i64.wrap (now + d) = now + d:=IntWalk.i64_in _ (by omega)
   have s2:IntKind.i64.wrap (b + sv) = b + sv:=IntWalk.i64_in _ (by omega)
   have s3:IntKind.i64.wrap ((k:Int) + 1) = (k:Int) + 1:=IntWalk.i64_in _ (by omega)
   replace hst:=Lib.hid hst
   replace hB:=Lib.hid hB
   clear hq hsv h3 hb1 hE
   have hla1:=Lib.hid (hla.out wr hbr)
   have HR:=Lib.hid hR
   have HA:=Lib.hid hA
   replace hbr:=Lib.hid hbr
   clear hR hA
   go_upto_region 5 with fail
   go_wp2_with (first | (refine wpList_load_v rfl 125 _ rfl (a.add (k * 2)) rfl _ hla1.out ?_))
   refine (hcp.out wr hbr.out).mono ?_
   rintro e4 w4 ⟨rfl,hb4⟩
   have hM4:=Lib.hid ((Mod.refl (fun _=>False) wr).after hb4)
   have hz4:=hb4.size
   clear hla1 hcp hb4
   go_upto_region 6 with (refine wpList_store_new rfl 53 _ _ rfl rfl rfl _ #[.int .i64 px,.int .i64 py] _ rfl rfl (pair_one _ _) (pl_size _ _) ?_)
   generalize hbP:w4.heap.size = bP
   refine wp_world' (fun wx=>Blk wx bP #[.int .i64 px,.int .i64 py] 53∧Mod (fun _=>False) wr wx)
    ⟨by rw [← hbP]; exact Blk.new _ _ _,hM4.out.alloc _⟩ ?_
   rintro w5 ⟨hP5,hM5⟩
   have hgP:gA < bP:=by have:=HA.out.lt; omega
   have hlz:=Lib.hid (fun z:Later (fun _=>False) w5=>hla.out z.val (hbr.out.trans ((hM5.trans z.mod).below hbr.out.size (fun _ h=>h.elim))))
   have hl0z:=Lib.hid (fun z:Later (fun _=>False) w5=>run_i64S9 (hl0.out z.val (hbr.out.trans ((hM5.trans z.mod).below hbr.out.size (fun _ h=>h.elim)))))
   have hl9z:=Lib.hid (fun z:Later (fun _=>False) w5=>run_i64S9 (hl9.out z.val (hbr.out.trans ((hM5.trans z.mod).below hbr.out.size (fun _ h=>h.elim)))))
   have hcz:=Lib.hid (fun z:Later (fun _=>False) w5=>hcw.out z.val (hbr.out.trans ((hM5.trans z.mod).below hbr.out.size (fun _ h=>h.elim))))
   have hAz:=Lib.hid (fun z:Later (fun _=>False) w5=>run_load_row' (P:=Tryz.prog) z.val gA 53 #[.int .i64 ax,.int .i64 ay] 53 _ ((HA.out.mod hM5 (fun h=>h)).mod z.mod (fun h=>h)) Tryz.underlying53 rfl (pl_size _ _))
   have hPz:=Lib.hid (fun z:Later (fun _=>False) w5=>run_load_row' (P:=Tryz.prog) z.val bP 53 #[.int .i64 px,.int .i64 py] 53 _ (hP5.mod z.mod (fun h=>h)) Tryz.underlying53 rfl (pl_size _ _))
   have hnx:=Lib.hid (fun z:Later (fun _=>False) w5=>(⟨(HR.out.mod hM5 (fun h=>h)).mod z.mod (fun h=>h),(HA.out.mod hM5 (fun h=>h)).mod z.mod (fun h=>h),hP5.mod z.mod (fun h=>h),hbr.out.trans ((hM5.trans z.mod).below hbr.out.size (fun _ h=>h.elim))⟩:
    Blk z.val (w.heap.size + 1) #[.int .i64 0,.int .i64 0] 53∧Blk z.val gA #[.int .i64 ax,.int .i64 ay] 53∧Blk z.val bP #[.int .i64 px,.int .i64 py] 53∧Below w.heap.size w z.val))
   clear hla hl0 hl9 hcw HR HA hM4 hP5 hM5 hbP hz4
   refine wp_region_later (w0:=w5) (S:=fun _=>False) (Mod.refl _ _) (by kernel_rfl) (by kernel_rfl) ?_
   go_big_quiet_step (fail)
   refine wpQuiet_v rfl (.agg #[.int .i64 ax,.int .i64 ay]) (by rintro _ ⟨z,rfl⟩; exact run_load_v rfl rfl (hAz.out z)) ?_
   simp only [Act.put,List.setIfInBounds_toArray,List.set_cons_succ,List.set_cons_zero]
   refine wpQuiet_v rfl (.agg #[.int .i64 px,.int .i64 py]) (by rintro _ ⟨z,rfl⟩; exact run_load_v rfl rfl (hPz.out z)) ?_
   simp only [Act.put,List.setIfInBounds_toArray,List.set_cons_succ,List.set_cons_zero]
   go_big_quiet_step (((go_at_call 105; with_reducible exact Calls.later (hdc.out _))))
   iterate 3 (go_big_quiet_step (fail))
   refine wpQuiet_v rfl (.pointer (some (a.add (k * 2)))) (by rintro _ ⟨z,rfl⟩; exact run_ixSt9 rfl rfl rfl hlt) ?_
   simp only [Act.put,List.setIfInBounds_toArray,List.set_cons_succ,List.set_cons_zero]
   refine wpQuiet_v rfl (.agg #[.int .i64 (n:Int),.int .i64 q]) (by rintro _ ⟨z,rfl⟩; exact run_load_v rfl rfl (hlz.out z)) ?_
   simp only [Act.put,List.setIfInBounds_toArray,List.set_cons_succ,List.set_cons_zero]
   go_big_quiet_step (fail)
   go_big_quiet_step (((go_at_call 148; with_reducible exact Calls.later (hcz.out _))))
   refine wpQuiet_v rfl (.int .i64 e) (by rintro _ ⟨z,rfl⟩; exact run_fieldE9 rfl rfl) ?_
   simp only [Act.put,List.setIfInBounds_toArray,List.set_cons_succ,List.set_cons_zero]
   refine wpQuiet_v rfl (.int .i64 b) (by rintro _ ⟨z,rfl⟩; exact run_maxD hB.out rfl rfl rfl) ?_
   simp only [Act.put,List.setIfInBounds_toArray,List.set_cons_succ,List.set_cons_zero]
   iterate 3 (go_big_quiet_step (fail))
   refine wpQuiet_v rfl (.pointer (some (a.add (k * 2)))) (by rintro _ ⟨z,rfl⟩; exact run_ixSt9 rfl rfl rfl hlt) ?_
   simp only [Act.put,List.setIfInBounds_toArray,List.set_cons_succ,List.set_cons_zero]
   refine wpQuiet_v rfl (.pointer (some ((a.add (k * 2)).add 0))) (by rintro _ ⟨z,rfl⟩; exact run_fldS9 rfl rfl) ?_
   simp only [Act.put,List.setIfInBounds_toArray,List.set_cons_succ,List.set_cons_zero]
   refine wpQuiet_v rfl (.int .i64 (n:Int)) (by rintro _ ⟨z,rfl⟩; exact run_load_v rfl rfl (hl0z.out z)) ?_
   simp only [Act.put,List.setIfInBounds_toArray,List.set_cons_succ,List.set_cons_zero]
   refine wpQuiet_v rfl (.pointer (some (a'.add (n * 10)))) (by rintro _ ⟨z,rfl⟩; exact run_ixRq rfl rfl rfl hn) ?_
   simp only [Act.put,List.setIfInBounds_toArray,List.set_cons_succ,List.set_cons_zero]
   refine wpQuiet_v rfl (.pointer (some ((a'.add (n * 10)).add 9))) (by rintro _ ⟨z,rfl⟩; exact run_fldA rfl rfl) ?_
   simp only [Act.put,List.setIfInBounds_toArray,List.set_cons_succ,List.set_cons_zero]
   refine wpQuiet_v rfl (.int .i64 sv) (by rintro _ ⟨z,rfl⟩; exact run_load_v rfl rfl (hl9z.out z)) ?_
   simp only [Act.put,List.setIfInBounds_toArray,List.set_cons_succ,List.set_cons_zero]
   iterate 2 (go_big_quiet_step (fail))
   refine wpQuiet_nil ?_
   rintro _ ⟨z,rfl⟩
   obtain ⟨hR,hA,hP,hb⟩:=hnx.out z
   clear hlz hl0z hl9z hcz hAz hPz hnx hdc
   generalize z.val = w6 at *
   clear z
   have hlP:=Lib.hid (run_load_row' (P:=Tryz.prog) w6 bP 53 #[.int .i64 px,.int .i64 py] 53 _ hP Tryz.underlying53 rfl (pl_size _ _))
   have HR:=Lib.hid hR
   have HA:=Lib.hid hA
   have Hb:=Lib.hid hb
   clear hR hA hb hP
   go_wp2_with (first | (refine wpList_load_v rfl 53 _ rfl ⟨bP,0,none⟩ rfl _ hlP.out ?_) | (refine wpList_store_row2 rfl 53 _ _ rfl rfl gA rfl #[.int .i64 ax,.int .i64 ay] #[.int .i64 px,.int .i64 py] 53 HA.out rfl rfl (pair_one _ _) (pl_size _ _) ?_; intro wz hBz hmz))
   have hR7:=Lib.hid (HR.out.mod hmz (by omega))
   have hb7:=Lib.hid (Hb.out.trans (hmz.below Hb.out.size (fun b e=>by omega)))
   replace hBz:=Lib.hid hBz
   clear hlP HR HA Hb
   go_roundw
   case rel=>exact ⟨k + 1,px,py,b + sv,by omega,by simp,rfl,hst,hR7.out,hBz.out,hb7.out⟩
   case measure=>simp [intOf]; omega
  ·obtain rfl:k = ln:=by omega
   have hlA:=Lib.hid (run_load_row' (P:=Tryz.prog) wr gA 53 #[.int .i64 ax,.int .i64 ay] 53 _ hA Tryz.underlying53 rfl (pl_size _ _))
   have HR:=Lib.hid hR
   have Hb:=Lib.hid hbr
   clear hR hA hbr
   go_wp2_with (first | (refine wpList_load_v rfl 53 _ rfl ⟨gA,0,none⟩ rfl _ hlA.out ?_) | (refine wpList_store_row2 rfl 53 _ _ rfl rfl (w.heap.size + 1) rfl #[.int .i64 0,.int .i64 0] #[.int .i64 ax,.int .i64 ay] 53 HR.out rfl rfl (pair_one _ _) (pl_size _ _) ?_; intro wz hBz hmz))
   exact bodyPost_ret (results_cell_tmp rfl _ _ (w.heap.size + 1) _ _ _ _ rfl hBz Tryz.underlying53 rfl (pl_size _ _)) rfl ⟨by rw [hFk.out]; rfl,Hb.out.trans (hmz.below Hb.out.size (fun b e=>by omega))⟩
theorem stands9_calls (p p':Option Addr) (cap cap':Nat) (l:List (Int × Int)) (n T:Nat) (q:Int) (w:World) (hE:Els w p 2 (l.map stV)) (hn:n < T) (hq:q = 0∨q = 1) (h1:((l.count ((n:Int),0):Nat):Int) = q) (h2:l.count ((n:Int),1) = 0):
  Calls Tryz.prog 147 #[.slice p l.length cap,.agg #[.int .i64 (n:Int),.int .i64 q],.slice p' T cap'] w fun e w'=>e = .returned (.bool true)∧Below w.heap.size w w':=by
 have hm0:=Lib.hid (fun wx (h:Below w.heap.size w wx)=>(by
  have:=many9_calls p cap l (n:Int) 0 wx (hE.below h)
  rw [h1] at this
  exact this:Calls Tryz.prog 156 #[.slice p l.length cap,.agg #[.int .i64 (n:Int),.int .i64 0]] wx fun e w'=>e = .returned (.int .i64 q)∧Below wx.heap.size wx w'))
 have hm1:=Lib.hid (fun wx (h:Below w.heap.size w wx)=>(by
  have:=many9_calls p cap l (n:Int) 1 wx (hE.below h)
  rw [h2] at this
  exact this:Calls Tryz.prog 156 #[.slice p l.length cap,.agg #[.int .i64 (n:Int),.int .i64 1]] wx fun e w'=>e = .returned (.int .i64 0)∧Below wx.heap.size wx w'))
 generalize l.length = ln at hm0 hm1 ⊢
 clear h1 h2 hE
 have hnI:(n:Int) < (T:Int):=by omega
 have hn0:¬ (n:Int) < 0:=by omega
 go_enter Tryz.func147,Tryz.ntmps147
 go_upto_region 1 with fail
 refine wp_world' (fun wx=>Blk wx w.heap.size #[.int .i64 (n:Int),.int .i64 q] 125∧Below w.heap.size w wx) ⟨Blk.new _ _ _,new_below _ _⟩ ?_
 rintro w1 ⟨hB,hb⟩
 have k0:w1.cell? ⟨w.heap.size,0,none⟩ = some (.int .i64 (n:Int)):=hB.cell (i:=0) rfl
 have k1:w1.cell? ⟨w.heap.size,1,none⟩ = some (.int .i64 q):=hB.cell (i:=1) rfl
 have K0:=fun z:Later (fun _=>False) w1=>z.cell k0 (fun h=>h)
 have K1:=Lib.hid (fun z:Later (fun _=>False) w1=>z.cell k1 (fun h=>h))
 have M0:=Lib.hid (fun z:Later (fun _=>False) w1=>hm0.out z.val (hb.trans (z.mod.below hb.size (fun _ h=>h.elim))))
 have M1:=Lib.hid (fun z:Later (fun _=>False) w1=>hm1.out z.val (hb.trans (z.mod.below hb.size (fun _ h=>h.elim))))
 have hfin:=Lib.hid (fun z:Later (fun _=>False) w1=>hb.trans (z.mod.below hb.size (fun _ h=>h.elim)))
 have hbl0:∀ w,(Instr.build 125 #[(0,.int .i64 (n:Int)),(1,.int .i64 0)]).run Tryz.prog w = .ok (.agg #[.int .i64 (n:Int),.int .i64 0]) w:=fun w=>by kernel_rfl
 have hbl1:∀ w,(Instr.build 125 #[(0,.int .i64 (n:Int)),(1,.int .i64 1)]).run Tryz.prog w = .ok (.agg #[.int .i64 (n:Int),.int .i64 1]) w:=fun w=>by kernel_rfl
 replace K0:=Lib.hid K0
 clear hB hm0 hm1 hb
 rcases hq with rfl | rfl
 all_goals
  go_upto_region 3 with fail
  have hK0:=K0.out
  clear k0 k1
  refine wp_region_later (w0:=w1) (S:=fun _=>False) (Mod.refl _ _) (by kernel_rfl) (by kernel_rfl) ?_
  iterate 4 (go_big_quiet_step (fail))
  go_big_quiet_step (((go_at_call 156; with_reducible exact Calls.later (M0.out _))))
  iterate 4 (go_big_quiet_step (fail))
  go_big_quiet_step (((go_at_call 156; with_reducible exact Calls.later (M1.out _))))
  iterate 2 (go_big_quiet_step (fail))
  refine wpQuiet_nil ?_
  rintro _ ⟨z,rfl⟩
  have k1:=K1.out z
  have hf:=Lib.hid (hfin.out z)
  clear K0 K1 M0 M1 hfin hK0
  generalize z.val = w2 at *
  clear z
  go_wp2_with fail
  go_ret
  exact ⟨rfl,hf.out⟩
def stE9 (cp x y st:Int) (M:List (Int × Int)) (t:List Rq) (n:Nat) (q:Int):Int:=
 if cp < onK M t M.length then 10 else if gL q (t.getD n rqZ0) < (lvRun t M x y st).2.2 - t.getD n rqZ0 9 then 9 else 0
theorem stop9_calls (x y cp st en:Int) (p p':Option Addr) (cap cap':Nat) (pre:List (Int × Int)) (n:Nat) (q:Int) (t:List Rq) (w:World) (hL:Els w p 2 ((pre ++ [((n:Int),q)]).map stV)) (hcap:pre.length + 1≤cap∧cap≤9223372036854775807) (hT:Els w p' 10 (t.map rqV))
  (hs:stand9 (pre ++ [((n:Int),q)]) t) (ht:∀ q ∈ t,rqE q = 0) (hk:knownS (pre ++ [((n:Int),q)]) t) (hl:pre.length + 1≤16) (hst:0≤st∧st≤1048576) (hn:n < t.length) (hq:q = 0∨q = 1) (h1:((pre.count ((n:Int),0):Nat):Int) = q) (h2:pre.count ((n:Int),1) = 0):
  Calls Tryz.prog 132 #[.agg #[.int .i64 x,.int .i64 y,.int .i64 cp,.int .i64 st,.int .i64 en],.slice p (pre.length + 1) cap,.slice p' t.length cap'] w fun e w'=>e = .returned (.int .i64 (stE9 cp x y st (pre ++ [((n:Int),q)]) t n q))∧Below w.heap.size w w':=by
 have hbt:t.length≤140737488351232:=by simpa using hT.big
 obtain ⟨a,rfl⟩:=hL.some_of (k:=pre.length) (by simp)
 obtain ⟨a',rfl⟩:=hT.some_of (k:=n) (by simpa using hn)
 have hMl:(pre ++ [((n:Int),q)]).length = pre.length + 1:=by simp
 have hpre:Els w (some a) 2 (pre.map stV):=by
  have:=hL.take pre.length
  rw [← List.map_take,List.take_left'] at this
  ·exact this
  ·rfl
 have hX:stE9 cp x y st (pre ++ [((n:Int),q)]) t n q = if cp < onK (pre ++ [((n:Int),q)]) t (pre.length + 1) then 10 else if gL q (t.getD n rqZ0) < (lvRun t (pre ++ [((n:Int),q)]) x y st).2.2 - t.getD n rqZ0 9 then 9 else 0:=by
  unfold stE9
  rw [hMl]
 have hcs:=Lib.hid (fun wx (h:Below w.heap.size w wx)=>stands9_calls (some a) (some a') cap cap' pre n t.length q wx (hpre.below h) hn hq h1 h2)
 have hcb:=Lib.hid (fun wx (h:Below w.heap.size w wx)=>(by
  have:=board9_calls (some a) (some a') cap cap' (pre ++ [((n:Int),q)]) t wx (hL.below h) (hT.below h) hs ht hk (by rw [hMl]; omega)
  rw [hMl] at this
  exact this:Calls Tryz.prog 133 #[.slice (some a) (pre.length + 1) cap,.slice (some a') t.length cap'] wx fun e w'=>e = .returned (.int .i64 (onK (pre ++ [((n:Int),q)]) t (pre.length + 1)))∧Below wx.heap.size wx w'))
 have hcl:=Lib.hid (fun wx (h:Below w.heap.size w wx)=>(by
  have:=leaves9_calls x y cp st en (some a) (some a') cap cap' (pre ++ [((n:Int),q)]) t wx (hL.below h) (hT.below h) hs ht (by rw [hMl]; omega) hst
  rw [hMl] at this
  exact this:Calls Tryz.prog 134 #[.agg #[.int .i64 x,.int .i64 y,.int .i64 cp,.int .i64 st,.int .i64 en],.slice (some a) (pre.length + 1) cap,.slice (some a') t.length cap'] wx fun e w'=>e = .returned (.tuple #[.agg #[.int .i64 (lvRun t (pre ++ [((n:Int),q)]) x y st).1,.int .i64 (lvRun t (pre ++ [((n:Int),q)]) x y st).2.1],.int .i64 (lvRun t (pre ++ [((n:Int),q)]) x y st).2.2])∧Below wx.heap.size wx w'))
 have hcw:=Lib.hid (fun wx (h:Below w.heap.size w wx)=>window9_calls (some a') cap' t n q wx (hT.below h) hn)
 have hla:=Lib.hid (fun wx (h:Below w.heap.size w wx)=>(by
  have:=(hL.below h).load (P:=Tryz.prog) (a:=a) rfl (k:=pre.length) (by simp) (ty:=125) Tryz.underlying125 rfl (by kernel_rfl)
  rw [List.getElem_map,List.getElem_append_right (Nat.le_refl _)] at this
  simp only [Nat.sub_self,List.getElem_cons_zero] at this
  exact this:(loadVar 125 (a.add (pre.length * 2))).run Tryz.prog wx = .ok (.agg #[.int .i64 (n:Int),.int .i64 q]) wx))
 have hl0:=Lib.hid (fun wx (h:Below w.heap.size w wx)=>(hL.below h).one (a:=a) rfl (k:=pre.length) (by simp) 0 (.int .i64 (n:Int)) (by simp [stV]))
 have hl9:=Lib.hid (fun wx (h:Below w.heap.size w wx)=>(by
  have:=(hT.below h).one (a:=a') rfl (k:=n) (by simpa using hn) 9 (.int .i64 (t[n] 9)) (by rw [List.getElem_map]; rfl)
  rwa [← getD_at t hn] at this:wx.cell? ((a'.add (n * 10)).add 9) = some (.int .i64 (t.getD n rqZ0 9))))
 have hbd:=lv_bd ht hs x y hst (pre.length + 1) (by rw [hMl]; omega)
 rw [← hMl,List.take_length,hMl] at hbd
 have hsv:=rqE_all (ht (t.getD n rqZ0) (by rw [getD_at t hn]; exact List.getElem_mem hn))
 generalize stE9 cp x y st (pre ++ [((n:Int),q)]) t n q = X at hX ⊢
 generalize lvRun t (pre ++ [((n:Int),q)]) x y st = LV at hX hcl hbd
 generalize onK (pre ++ [((n:Int),q)]) t (pre.length + 1) = on at hX hcb
 generalize t.getD n rqZ0 = Q at hX hcw hl9 hsv
 obtain ⟨lx,ly,lt⟩:=LV
 dsimp only at hX hcl hbd
 obtain ⟨sv,hsv9⟩:∃ sv,Q 9 = sv:=⟨_,rfl⟩
 rw [hsv9] at hX hl9 hsv
 have hqs:=hsv.2.2.2
 generalize gL q Q = la at hX hcw
 generalize gE q Q = ea at hcw
 clear hsv hsv9 hL hT hs ht hk h1 h2 hpre hMl
 obtain ⟨m,hm⟩:∃ m,pre.length = m:=⟨_,rfl⟩
 obtain ⟨T,hTT⟩:∃ T,t.length = T:=⟨_,rfl⟩
 rw [hm] at hcs hcb hcl hla hl0 hcap hl hbd ⊢
 rw [hTT] at hcs hcb hcl hcw hn hbt ⊢
 clear hm hTT
 replace hX:=Lib.hid hX
 obtain ⟨M,hM⟩:∃ M,M = m + 1:=⟨_,rfl⟩
 rw [← hM] at hcb hcl hcap hl hbd ⊢
 have hmM:m < M:=by omega
 have s0:IntKind.i64.wrap ((M:Int) - 1) = (m:Int):=by rw [IntWalk.i64_in _ (by omega)]; omega
 have s1:IntKind.i64.wrap (lt - sv) = lt - sv:=IntWalk.i64_in _ (by omega)
 have hslM:m≤M∧M≤cap∧cap≤9223372036854775807:=⟨by omega,hcap⟩
 replace hM:=Lib.hid hM
 obtain ⟨V,hV⟩:∃ V:Array Value,#[.int .i64 x,.int .i64 y,.int .i64 cp,.int .i64 st,.int .i64 en] = V:=⟨_,rfl⟩
 have g2:V[2]? = some (.int .i64 cp):=by rw [← hV]; rfl
 have hsV:V.size = 5:=by rw [← hV]; rfl
 rw [hV] at hcl ⊢
 have hlv:=Lib.hid (fun wx (h:Blk wx w.heap.size V 59)=>run_load_row' (P:=Tryz.prog) wx w.heap.size 59 V 59 _ h Tryz.underlying59 rfl (by rw [hsV]; kernel_rfl))
 clear hV hsV
 go_enter Tryz.func132,Tryz.ntmps132
 go_upto_region 1 with fail
 refine wp_world' (fun wx=>Blk wx w.heap.size V 59∧Below w.heap.size w wx) ⟨Blk.new _ _ _,new_below _ _⟩ ?_
 rintro w1 ⟨hB,hb⟩
 have hnx:=Lib.hid (fun z:Later (fun _=>False) w1=>(⟨hB.mod z.mod (fun h=>h),hb.trans (z.mod.below hb.size (fun _ h=>h.elim))⟩:Blk z.val w.heap.size V 59∧Below w.heap.size w z.val))
 have HB:=Lib.hid hB
 have Hb:=Lib.hid hb
 clear hB hb
 go_upto_region 4 with fail
 refine wp_region_later (w0:=w1) (S:=fun _=>False) (Mod.refl _ _) (by kernel_rfl) (by kernel_rfl) ?_
 iterate 2 (go_big_quiet_step (fail))
 refine wpQuiet_v rfl (.slice (some a) m cap) (by rintro _ ⟨z,rfl⟩; exact run_slS hslM rfl rfl rfl) ?_
 simp only [Act.put,List.setIfInBounds_toArray,List.set_cons_succ,List.set_cons_zero]
 iterate 2 (go_big_quiet_step (fail))
 refine wpQuiet_v rfl (.pointer (some (a.add (m * 2)))) (by rintro _ ⟨z,rfl⟩; exact run_ixSt9 rfl rfl rfl hmM) ?_
 simp only [Act.put,List.setIfInBounds_toArray,List.set_cons_succ,List.set_cons_zero]
 refine wpQuiet_v rfl (.agg #[.int .i64 (n:Int),.int .i64 q]) (by rintro _ ⟨z,rfl⟩; exact run_load_v rfl rfl (hla.out z.val (hnx.out z).2)) ?_
 simp only [Act.put,List.setIfInBounds_toArray,List.set_cons_succ,List.set_cons_zero]
 go_big_quiet_step (fail)
 go_big_quiet_step (((go_at_call 147; with_reducible exact Calls.later (hcs.out _ (hnx.out _).2))))
 go_big_quiet_step (fail)
 refine wpQuiet_nil ?_
 rintro _ ⟨z,rfl⟩
 obtain ⟨hB,hb⟩:=hnx.out z
 clear hnx HB Hb hcs
 generalize z.val = w2 at *
 clear z
 have k2:=fun z:Later (fun _=>False) w2=>z.cell (hB.cell g2) (fun h=>h)
 replace k2:=Lib.hid k2
 have hnx:=Lib.hid (fun z:Later (fun _=>False) w2=>(⟨hB.mod z.mod (fun h=>h),hb.trans (z.mod.below hb.size (fun _ h=>h.elim))⟩:Blk z.val w.heap.size V 59∧Below w.heap.size w z.val))
 have hcbz:=Lib.hid (fun z:Later (fun _=>False) w2=>hcb.out z.val (hb.trans (z.mod.below hb.size (fun _ h=>h.elim))))
 clear hB hb hcb
 go_upto_region 6 with fail
 by_cases hfull:cp < on
 ·obtain rfl:=hX.out.trans (if_pos hfull)
  have hd:decide (cp < on) = true:=decide_eq_true hfull
  have hk2:=k2.out
  refine wp_region_later (w0:=w2) (S:=fun _=>False) (Mod.refl _ _) (by kernel_rfl) (by kernel_rfl) ?_
  iterate 2 (go_big_quiet_step (fail))
  go_big_quiet_step (((go_at_call 133; with_reducible exact Calls.later (hcbz.out _))))
  iterate 3 (go_big_quiet_step (fail))
  refine wpQuiet_nil ?_
  rintro _ ⟨z,rfl⟩
  obtain ⟨-,hb⟩:=hnx.out z
  generalize z.val = w3 at *
  clear k2 hk2 hnx hcbz
  replace hb:=Lib.hid hb
  go_wp2_with fail
  go_ret
  exact ⟨rfl,hb.out⟩
 ·replace hX:=Lib.hid (hX.out.trans (if_neg hfull))
  have hd:decide (cp < on) = false:=decide_eq_false hfull
  have hk2:=k2.out
  refine wp_region_later (w0:=w2) (S:=fun _=>False) (Mod.refl _ _) (by kernel_rfl) (by kernel_rfl) ?_
  iterate 2 (go_big_quiet_step (fail))
  go_big_quiet_step (((go_at_call 133; with_reducible exact Calls.later (hcbz.out _))))
  iterate 3 (go_big_quiet_step (fail))
  refine wpQuiet_nil ?_
  rintro _ ⟨z,rfl⟩
  obtain ⟨hB,hb⟩:=hnx.out z
  generalize z.val = w3 at *
  clear k2 hk2 hnx hcbz z
  have hlv3:=Lib.hid (hlv.out w3 hB)
  have hcl3:=hcl.out w3 hb
  replace hB:=Lib.hid hB
  replace hb:=Lib.hid hb
  clear hcl hlv
  go_upto_region 8 with fail
  go_wp2_with (refine wpList_load_v rfl 59 _ rfl ⟨w.heap.size,0,none⟩ rfl _ hlv3.out ?_)
  refine hcl3.mono ?_
  clear hcl3 hlv3
  rintro e4 w4 ⟨rfl,hb4⟩
  replace hb:=Lib.hid (hb.out.trans (hb4.mono hb.out.size))
  clear hb4 hB
  go_upto_region 9 with (refine wpList_store_new rfl 53 _ _ rfl rfl rfl _ #[.int .i64 lx,.int .i64 ly] _ rfl rfl (pair_one _ _) (pl_size _ _) ?_)
  refine wp_world' (fun wx=>Below w.heap.size w wx) (hb.out.alloc hb.out.size _) ?_
  intro w5 hb5
  have hbz:=Lib.hid (fun z:Later (fun _=>False) w5=>hb5.trans (z.mod.below hb5.size (fun _ h=>h.elim)))
  have hlz:=Lib.hid (fun z:Later (fun _=>False) w5=>hla.out z.val (hbz.out z))
  have hl0z:=Lib.hid (fun z:Later (fun _=>False) w5=>run_i64S9 (hl0.out z.val (hbz.out z)))
  have hl9z:=Lib.hid (fun z:Later (fun _=>False) w5=>run_i64S9 (hl9.out z.val (hbz.out z)))
  have hcz:=Lib.hid (fun z:Later (fun _=>False) w5=>hcw.out z.val (hbz.out z))
  clear hla hl0 hl9 hcw hb hb5
  by_cases hlate:la < lt - sv
  ·obtain rfl:=hX.out.trans (if_pos hlate)
   have hd:decide (la < lt - sv) = true:=decide_eq_true hlate
   refine wp_region_later (w0:=w5) (S:=fun _=>False) (Mod.refl _ _) (by kernel_rfl) (by kernel_rfl) ?_
   iterate 4 (go_big_quiet_step (fail))
   refine wpQuiet_v rfl (.pointer (some (a.add (m * 2)))) (by rintro _ ⟨z,rfl⟩; exact run_ixSt9 rfl rfl rfl hmM) ?_
   simp only [Act.put,List.setIfInBounds_toArray,List.set_cons_succ,List.set_cons_zero]
   refine wpQuiet_v rfl (.pointer (some ((a.add (m * 2)).add 0))) (by rintro _ ⟨z,rfl⟩; exact run_fldS9 rfl rfl) ?_
   simp only [Act.put,List.setIfInBounds_toArray,List.set_cons_succ,List.set_cons_zero]
   refine wpQuiet_v rfl (.int .i64 (n:Int)) (by rintro _ ⟨z,rfl⟩; exact run_load_v rfl rfl (hl0z.out z)) ?_
   simp only [Act.put,List.setIfInBounds_toArray,List.set_cons_succ,List.set_cons_zero]
   refine wpQuiet_v rfl (.pointer (some (a'.add (n * 10)))) (by rintro _ ⟨z,rfl⟩; exact run_ixRq rfl rfl rfl hn) ?_
   simp only [Act.put,List.setIfInBounds_toArray,List.set_cons_succ,List.set_cons_zero]
   refine wpQuiet_v rfl (.pointer (some ((a'.add (n * 10)).add 9))) (by rintro _ ⟨z,rfl⟩; exact run_fldA rfl rfl) ?_
   simp only [Act.put,List.setIfInBounds_toArray,List.set_cons_succ,List.set_cons_zero]
   refine wpQuiet_v rfl (.int .i64 sv) (by rintro _ ⟨z,rfl⟩; exact run_load_v rfl rfl (hl9z.out z)) ?_
   simp only [Act.put,List.setIfInBounds_toArray,List.set_cons_succ,List.set_cons_zero]
   iterate 3 (go_big_quiet_step (fail))
   refine wpQuiet_v rfl (.pointer (some (a.add (m * 2)))) (by rintro _ ⟨z,rfl⟩; exact run_ixSt9 rfl rfl rfl hmM) ?_
   simp only [Act.put,List.setIfInBounds_toArray,List.set_cons_succ,List.set_cons_zero]
   refine wpQuiet_v rfl (.agg #[.int .i64 (n:Int),.int .i64 q]) (by rintro _ ⟨z,rfl⟩; exact run_load_v rfl rfl (hlz.out z)) ?_
   simp only [Act.put,List.setIfInBounds_toArray,List.set_cons_succ,List.set_cons_zero]
   go_big_quiet_step (fail)
   go_big_quiet_step (((go_at_call 148; with_reducible exact Calls.later (hcz.out _))))
   refine wpQuiet_v rfl (.int .i64 la) (by rintro _ ⟨z,rfl⟩; exact run_fieldL9 rfl rfl) ?_
   simp only [Act.put,List.setIfInBounds_toArray,List.set_cons_succ,List.set_cons_zero]
   go_big_quiet_step (fail)
   refine wpQuiet_nil ?_
   rintro _ ⟨z,rfl⟩
   have hb:=Lib.hid (hbz.out z)
   generalize z.val = w6 at *
   clear hlz hl0z hl9z hcz hbz z
   go_wp2_with fail
   go_ret
   exact ⟨rfl,hb.out⟩
  ·obtain rfl:=hX.out.trans (if_neg hlate)
   have hd:decide (la < lt - sv) = false:=decide_eq_false hlate
   refine wp_region_later (w0:=w5) (S:=fun _=>False) (Mod.refl _ _) (by kernel_rfl) (by kernel_rfl) ?_
   iterate 4 (go_big_quiet_step (fail))
   refine wpQuiet_v rfl (.pointer (some (a.add (m * 2)))) (by rintro _ ⟨z,rfl⟩; exact run_ixSt9 rfl rfl rfl hmM) ?_
   simp only [Act.put,List.setIfInBounds_toArray,List.set_cons_succ,List.set_cons_zero]
   refine wpQuiet_v rfl (.pointer (some ((a.add (m * 2)).add 0))) (by rintro _ ⟨z,rfl⟩; exact run_fldS9 rfl rfl) ?_
   simp only [Act.put,List.setIfInBounds_toArray,List.set_cons_succ,List.set_cons_zero]
   refine wpQuiet_v rfl (.int .i64 (n:Int)) (by rintro _ ⟨z,rfl⟩; exact run_load_v rfl rfl (hl0z.out z)) ?_
   simp only [Act.put,List.setIfInBounds_toArray,List.set_cons_succ,List.set_cons_zero]
   refine wpQuiet_v rfl (.pointer (some (a'.add (n * 10)))) (by rintro _ ⟨z,rfl⟩; exact run_ixRq rfl rfl rfl hn) ?_
   simp only [Act.put,List.setIfInBounds_toArray,List.set_cons_succ,List.set_cons_zero]
   refine wpQuiet_v rfl (.pointer (some ((a'.add (n * 10)).add 9))) (by rintro _ ⟨z,rfl⟩; exact run_fldA rfl rfl) ?_
   simp only [Act.put,List.setIfInBounds_toArray,List.set_cons_succ,List.set_cons_zero]
   refine wpQuiet_v rfl (.int .i64 sv) (by rintro _ ⟨z,rfl⟩; exact run_load_v rfl rfl (hl9z.out z)) ?_
   simp only [Act.put,List.setIfInBounds_toArray,List.set_cons_succ,List.set_cons_zero]
   iterate 3 (go_big_quiet_step (fail))
   refine wpQuiet_v rfl (.pointer (some (a.add (m * 2)))) (by rintro _ ⟨z,rfl⟩; exact run_ixSt9 rfl rfl rfl hmM) ?_
   simp only [Act.put,List.setIfInBounds_toArray,List.set_cons_succ,List.set_cons_zero]
   refine wpQuiet_v rfl (.agg #[.int .i64 (n:Int),.int .i64 q]) (by rintro _ ⟨z,rfl⟩; exact run_load_v rfl rfl (hlz.out z)) ?_
   simp only [Act.put,List.setIfInBounds_toArray,List.set_cons_succ,List.set_cons_zero]
   go_big_quiet_step (fail)
   go_big_quiet_step (((go_at_call 148; with_reducible exact Calls.later (hcz.out _))))
   refine wpQuiet_v rfl (.int .i64 la) (by rintro _ ⟨z,rfl⟩; exact run_fieldL9 rfl rfl) ?_
   simp only [Act.put,List.setIfInBounds_toArray,List.set_cons_succ,List.set_cons_zero]
   go_big_quiet_step (fail)
   refine wpQuiet_nil ?_
   rintro _ ⟨z,rfl⟩
   have hb:=Lib.hid (hbz.out z)
   generalize z.val = w6 at *
   clear hlz hl0z hl9z hcz hbz z
   go_wp2_with fail
   go_ret
   exact ⟨rfl,hb.out⟩
def CkPost (w:World) (G:Prop) (e:Ending) (w':World):Prop:=
 Below w.heap.size w w'∧((G∧e = .returned (.agg #[.int .i64 0,.int .i64 0,.int .i64 0]))∨(¬ G∧∃ c a b:Int,c ≠ 0∧e = .returned (.agg #[.int .i64 c,.int .i64 a,.int .i64 b])))
theorem fa_size (a b c:Int):(Tryz.prog.info? 198).map (·.size) = some (#[Value.int .i64 a,Value.int .i64 b,Value.int .i64 c]:Array Value).size:=by kernel_rfl
theorem fa_one (a b c:Int):∀ v ∈ (#[Value.int .i64 a,Value.int .i64 b,Value.int .i64 c]:Array Value).toList,v.oneCell' = true:=by simp [Value.oneCell']
theorem onK9_end {l:List (Int × Int)} (t:List Rq) (h:chkP l = 0):onK l t l.length = 0:=by
 have h1:opS (fun r=>t.getD r.toNat rqZ0 8) (l.take l.length) = onK l t l.length:=opS_eq _ l (okq_of h) _ (Nat.le_refl _)
 rw [← h1,List.take_length]
 have hc:=((chkP_zero l (by have:=chkP_len h; omega)).1 h).2
 unfold opS
 have e:∀ s ∈ l,(if s.2 = 0∧l.count (s.1,1) = 0 then t.getD s.1.toNat rqZ0 8 else 0) = 0:=fun s hs=>by
  rw [if_neg]
  rintro ⟨h2,h3⟩
  have:=List.count_pos_iff.2 hs
  have h4:=hc s.1
  rw [show s = (s.1,0) by rw [← h2]] at this
  omega
 rw [List.map_congr_left e]
 have:∀ L:List (Int × Int),(L.map fun _=>(0:Int)).sum = 0:=fun L=>by induction L with
  | nil=>rfl
  | cons a L ih=>simpa using ih
 exact this l
theorem stop9_at {x y cp st en:Int} {l:List (Int × Int)} {t:List Rq} (hst:0≤st∧st≤1048576) (ht:∀ q ∈ t,rqE q = 0) (hc:chkP l = 0) (hs:stand9 l t) (hk:knownS l t) {i:Nat} (hi:i < l.length) (p p':Option Addr) (cap cap':Nat) (w:World) (hL:Els w p 2 (l.map stV)) (hcap:l.length≤cap∧cap≤9223372036854775807) (hT:Els w p' 10 (t.map rqV)):
  Calls Tryz.prog 132 #[.agg #[.int .i64 x,.int .i64 y,.int .i64 cp,.int .i64 st,.int .i64 en],.slice p (i + 1) cap,.slice p' t.length cap'] w fun e w'=>e = .returned (.int .i64 (stc9 cp x y st l t i))∧Below w.heap.size w w':=by
 have hl16:=chkP_len hc
 have hok:=((chkP_zero l (by omega)).1 hc).1 i l[i] (List.getElem?_eq_getElem hi)
 obtain ⟨a,b,c⟩:=hs _ (List.getElem_mem hi)
 have hsp:l.take (i + 1) = l.take i ++ [l[i]]:=List.take_succ_eq_append_getElem hi
 have hsub:∀ s ∈ l.take (i + 1),s ∈ l:=fun s h=>List.mem_of_mem_take h
 have hE:=hL.take (i + 1)
 rw [← List.map_take,hsp] at hE
 have hs':stand9 (l.take i ++ [l[i]]) t:=fun s h=>hs s (hsub s (by rw [hsp]; exact h))
 have hk':knownS (l.take i ++ [l[i]]) t:=fun s h=>hk s (hsub s (by rw [hsp]; exact h))
 have hlen:(l.take i).length = i:=by rw [List.length_take]; omega
 have hgd:l.getD i (0,0) = l[i]:=by rw [List.getD_eq_getElem?_getD,List.getElem?_eq_getElem hi]; rfl
 have hon:onK (l.take i ++ [l[i]]) t (i + 1) = onK l t (i + 1):=by
  rw [← hsp]
  unfold onK
  rw [List.take_take,Nat.min_self]
 have e9:stc9 cp x y st l t i = if cp < onK l t (i + 1) then 10 else if gL l[i].2 (t.getD l[i].1.toNat rqZ0) < (lvRun t (l.take (i + 1)) x y st).2.2 - t.getD l[i].1.toNat rqZ0 9 then 9 else 0:=by
  unfold stc9
  rw [hgd]
 rw [hsp] at e9
 generalize l[i] = s at *
 obtain ⟨r,q⟩:=s
 dsimp only at a b c
 obtain ⟨n,rfl⟩:=Int.eq_ofNat_of_zero_le a
 have h12:(((l.take i).count ((n:Int),0):Nat):Int) = q∧(l.take i).count ((n:Int),1) = 0:=by
  unfold okAt at hok
  dsimp only at hok
  rcases hok.2 with ⟨e,h1,h2⟩ | ⟨e,h1,h2⟩
  ·rw [h1,h2,e]; exact ⟨rfl,rfl⟩
  ·rw [h1,h2,e]; exact ⟨rfl,rfl⟩
 have:=stop9_calls x y cp st en p p' cap cap' (l.take i) n q t w hE (by rw [hlen]; omega) hT hs' ht hk' (by rw [hlen]; omega) hst (by omega) c h12.1 h12.2
 rw [hlen] at this
 refine this.mono ?_
 rintro e w' ⟨rfl,hb⟩
 refine ⟨?_,hb⟩
 have e2:(l.take i ++ [((n:Int),q)]).length = i + 1:=by simp [hlen]
 rw [e9]
 unfold stE9
 rw [e2,hon]
 rfl
theorem check9_calls {x y cp st en:Int} {l:List (Int × Int)} {t:List Rq} (hv:vehCode x y cp st en = 0) (ht:∀ q ∈ t,rqE q = 0) (hl:l.length≤16) (hR:Rou l) (hlt:∀ s ∈ l,s.1 < t.length) (p p':Option Addr) (cap cap':Nat) (w:World) (hL:Els w p 2 (l.map stV)) (hcap:l.length≤cap∧cap≤9223372036854775807) (hT:Els w p' 10 (t.map rqV)):
  Calls Tryz.prog 109 #[.agg #[.int .i64 x,.int .i64 y,.int .i64 cp,.int .i64 st,.int .i64 en],.slice p l.length cap,.slice p' t.length cap'] w (CkPost w (RightP x y cp st en l t)):=by
 have hbt:t.length≤140737488351232:=by simpa using hT.big
 obtain ⟨_,_,hs1,hs2,hs3⟩:=vehCode_zero hv
 have hst:0≤st∧st≤1048576:=by omega
 have hc:chkP l = 0:=(route_iff l).2 ⟨hl,hR⟩
 have hs:stand9 l t:=fun s h=>by
  have:=rou_mem hR h
  exact ⟨this.1,hlt s h,this.2.1⟩
 have hk:knownS l t:=fun s h=>by
  obtain ⟨a,b,c⟩:=hs s h
  refine ⟨c,s.1.toNat,by omega,by omega,?_⟩
  have:=rqE_all (ht _ (List.getElem_mem (by omega:s.1.toNat < t.length)))
  exact this.2.2.1
 have hiff:=right_lv hv ht hl hR hlt
 have hbd:=lv_bd ht hs x y hst l.length (Nat.le_refl _)
 rw [List.take_length] at hbd
 have hcv:=Lib.hid (fun w=>(by
  have:=vehicle_ref x y cp st en w
  rwa [hv] at this:Calls Tryz.prog 125 #[.agg #[.int .i64 x,.int .i64 y,.int .i64 cp,.int .i64 st,.int .i64 en]] w fun e w'=>e = .returned (.int .i64 0)∧Below w.heap.size w w'))
 have hcs:=Lib.hid (fun wx (i:Nat) (hi:i < l.length) (h:Below w.heap.size w wx)=>stop9_at (x:=x) (y:=y) (cp:=cp) (en:=en) hst ht hc hs hk hi p p' cap cap' wx (hL.below h) hcap (hT.below h))
 have hcb:=Lib.hid (fun wx (h:Below w.heap.size w wx)=>(by
  have:=board9_calls p p' cap cap' l t wx (hL.below h) (hT.below h) hs ht hk (by omega)
  rwa [onK9_end t hc] at this:Calls Tryz.prog 133 #[.slice p l.length cap,.slice p' t.length cap'] wx fun e w'=>e = .returned (.int .i64 0)∧Below wx.heap.size wx w'))
 have hcl:=Lib.hid (fun wx (h:Below w.heap.size w wx)=>leaves9_calls x y cp st en p p' cap cap' l t wx (hL.below h) (hT.below h) hs ht hl hst)
 have hcq:=Lib.hid (fun w (q:Rq) (hq:q ∈ t)=>(by
  have:=chk_ref (q 0) (q 1) (q 2) (q 3) (q 4) (q 5) (q 6) (q 7) (q 8) (q 9) w
  have e:rqCode (q 0) (q 1) (q 2) (q 3) (q 4) (q 5) (q 6) (q 7) (q 8) (q 9) = 0:=ht q hq
  rwa [e] at this:Calls Tryz.prog 126 #[.agg (rqV q).toArray] w fun e w'=>e = .returned (.int .i64 0)∧Below w.heap.size w w'))
 generalize RightP x y cp st en l t = G at hiff ⊢
 generalize lvRun t l x y st = LV at hiff hcl hbd
 obtain ⟨lx,ly,lt⟩:=LV
 dsimp only at hiff hcl hbd
 have hdc:=Lib.hid (fun w=>dist_ref lx ly x y w)
 have hds:=dsP_bd lx ly x y
 generalize dsP lx ly x y = d at hiff hdc hds
 have hsv:=fun (i:Nat) (_:i < l.length)=>(rfl:stc9 cp x y st l t i = stc9 cp x y st l t i)
 clear hsv
 generalize hS:(fun i=>stc9 cp x y st l t i) = S at hiff hcs
 have hS2:∀ i,stc9 cp x y st l t i = S i:=fun i=>congrFun hS i
 simp only [hS2] at hiff hcs
 clear hS hS2 hk hc hs hlt hR hv ht
 obtain ⟨ln,hln⟩:∃ ln,l.length = ln:=⟨_,rfl⟩
 obtain ⟨T,hTT⟩:∃ T,t.length = T:=⟨_,rfl⟩
 rw [hln] at hl hiff hcs hcb hcl hcap hbd ⊢
 rw [hTT] at hbt hcs hcb hcl ⊢
 replace hiff:=Lib.hid hiff
 replace hln:=Lib.hid hln
 replace hTT:=Lib.hid hTT
 replace hL:=Lib.hid hL
 replace hT:=Lib.hid hT
 obtain ⟨V,hV⟩:∃ V:Array Value,#[.int .i64 x,.int .i64 y,.int .i64 cp,.int .i64 st,.int .i64 en] = V:=⟨_,rfl⟩
 have g0:V[0]? = some (.int .i64 x):=by rw [← hV]; rfl
 have g1:V[1]? = some (.int .i64 y):=by rw [← hV]; rfl
 have g4:V[4]? = some (.int .i64 en):=by rw [← hV]; rfl
 have hsV:V.size = 5:=by rw [← hV]; rfl
 have hVp:=Lib.hid (fun wx (h:Blk wx w.heap.size V 59)=>(show (loadVar 53 ⟨w.heap.size,0,none⟩).run Tryz.prog wx = .ok (.agg #[.int .i64 x,.int .i64 y]) wx from by
  have:=load_part (P:=Tryz.prog) wx w.heap.size V 59 h 0 2 (by rw [hsV]; omega) 53 _ Tryz.underlying53 rfl (by kernel_rfl)
  rw [this,← hV]; rfl))
 rw [hV] at hcv hcs hcl ⊢
 have hlv:=Lib.hid (fun wx (h:Blk wx w.heap.size V 59)=>run_load_row' (P:=Tryz.prog) wx w.heap.size 59 V 59 _ h Tryz.underlying59 rfl (by rw [hsV]; kernel_rfl))
 clear hV hsV
 have hbf2:∀ (c k:Int) w,(Instr.build 198 #[(0,.int .i64 c),(1,.int .i64 2),(2,.int .i64 k)]).run Tryz.prog w = .ok (.agg #[.int .i64 c,.int .i64 2,.int .i64 k]) w:=fun c k w=>by kernel_rfl
 have hbf3:∀ (k:Int) w,(Instr.build 198 #[(0,.int .i64 9),(1,.int .i64 3),(2,.int .i64 k)]).run Tryz.prog w = .ok (.agg #[.int .i64 9,.int .i64 3,.int .i64 k]) w:=fun k w=>by kernel_rfl
 have hbf0:∀ w,(Instr.build 198 #[]).run Tryz.prog w = .ok (.agg #[.int .i64 0,.int .i64 0,.int .i64 0]) w:=fun w=>by kernel_rfl
 go_enter Tryz.func109,Tryz.ntmps109
 go_upto_region 1 with fail
 refine wp_world' (fun wx=>Blk wx w.heap.size V 59∧Blk wx (w.heap.size + 1) #[.int .i64 0,.int .i64 0,.int .i64 0] 198∧Below w.heap.size w wx)
  ⟨(Blk.new w _ _).alloc _,Blk.new' w _ _ _,((Below.refl _ _).alloc (Nat.le_refl _) _).alloc (by simp) _⟩ ?_
 rintro w1 ⟨hB,hF,hb⟩
 have hl1:=Lib.hid (hlv.out _ hB)
 go_wp2_with (refine wpList_load_v rfl 59 _ rfl ⟨w.heap.size,0,none⟩ rfl _ hl1.out ?_)
 refine (hcv.out _).mono ?_
 rintro e w2 ⟨rfl,hb2⟩
 replace hB:=hB.mod ((Mod.refl (fun _=>False) _).after hb2) (fun h=>h)
 replace hF:=hF.mod ((Mod.refl (fun _=>False) _).after hb2) (fun h=>h)
 replace hb:=hb.trans (hb2.mono hb.size)
 clear hb2 hl1 hcv
 go_wp2_with fail
 go_loopw [7] (fun i wr=>∃ k:Nat,k≤T∧i = .int .i64 k∧Blk wr w.heap.size V 59∧Blk wr (w.heap.size + 1) #[.int .i64 0,.int .i64 0,.int .i64 0] 198∧Below w.heap.size w wr) (fun i _=>T - (intOf i).toNat)
 case atStart=>exact ⟨0,Nat.zero_le _,rfl,hB,hF,hb⟩
 case round=>
  clear hB hF hb
  obtain ⟨k,hkl,rfl,hB,hF,hb⟩:=hrel
  by_cases hlt:k < T
  ·have hltI:(k:Int) < (T:Int):=by omega
   have hltT:k < t.length:=by rw [hTT.out]; exact hlt
   have s1:IntKind.i64.wrap ((k:Int) + 1) = (k:Int) + 1:=IntWalk.i64_in _ (by omega)
   obtain ⟨a,rfl⟩:=(hT.out.below hb).some_of (k:=k) (by simpa using hltT)
   have hla:=Lib.hid ((hT.out.below hb).load (P:=Tryz.prog) (a:=a) rfl (k:=k) (by simpa using hltT) (ty:=55) Tryz.underlying55 rfl (by kernel_rfl))
   rw [List.getElem_map] at hla
   have hc1:=Lib.hid (hcq.out wr t[k] (List.getElem_mem hltT))
   generalize (rqV t[k]).toArray = Y at hla hc1
   go_wp2_with (refine wpList_load_v rfl 55 _ rfl (a.add (k * 10)) rfl _ hla.out ?_)
   refine hc1.out.mono ?_
   rintro e w3 ⟨rfl,hb3⟩
   replace hB:=hB.mod ((Mod.refl (fun _=>False) _).after hb3) (fun h=>h)
   replace hF:=hF.mod ((Mod.refl (fun _=>False) _).after hb3) (fun h=>h)
   replace hb:=hb.trans (hb3.mono hb.size)
   clear hla hc1 hb3
   go_wp2_with fail
   go_roundw
   case rel=>exact ⟨k + 1,by omega,by simp,hB,hF,hb⟩
   case measure=>simp [intOf]; omega
  ·obtain rfl:k = T:=by omega
   clear hcq
   go_wp2_with fail
   go_loopw [8] (fun i wr=>∃ k:Nat,k≤ln∧i = .int .i64 k∧Hid (∀ i,i < k→S i = 0)∧Blk wr w.heap.size V 59∧Blk wr (w.heap.size + 1) #[.int .i64 0,.int .i64 0,.int .i64 0] 198∧Below w.heap.size w wr) (fun i _=>ln - (intOf i).toNat)
   case atStart=>exact ⟨0,Nat.zero_le _,rfl,Lib.hid (fun i h=>by omega),hB,hF,hb⟩
   case round=>
    clear hB hF hb
    obtain ⟨m,hml,rfl,hA,hB,hF,hb⟩:=hrel
    by_cases hlt2:m < ln
    ·have hltI:(m:Int) < (ln:Int):=by omega
     have hltL:m < l.length:=by rw [hln.out]; exact hlt2
     have s1:IntKind.i64.wrap ((m:Int) + 1) = (m:Int) + 1:=IntWalk.i64_in _ (by omega)
     obtain ⟨a,rfl⟩:=(hL.out.below hb).some_of (k:=m) (by simpa using hltL)
     have hbz:=Lib.hid (fun z:Later (fun _=>False) wr=>(⟨hB.mod z.mod (fun h=>h),hF.mod z.mod (fun h=>h),hb.trans (z.mod.below hb.size (fun _ h=>h.elim))⟩:Blk z.val w.heap.size V 59∧Blk z.val (w.heap.size + 1) #[.int .i64 0,.int .i64 0,.int .i64 0] 198∧Below w.heap.size w z.val))
     have hc1:=Lib.hid (fun z:Later (fun _=>False) wr=>hcs.out z.val m hlt2 (hbz.out z).2.2)
     have hle:m + 1≤ln∧ln≤cap∧cap≤9223372036854775807:=⟨hlt2,hcap⟩
     have hA1:Hid (S m = 0→∀ i,i < m + 1→S i = 0):=Lib.hid (fun h i hi=>by
      by_cases e:i = m
      ·rw [e]; exact h
      ·exact hA.out i (by omega))
     have hA2:Hid (S m ≠ 0→¬ G):=Lib.hid (fun h g=>h ((hiff.out.1 g).1 m hlt2))
     clear hA hB hF hb
     generalize S m = c at hc1 hA1 hA2
     go_upto_region 11 with fail
     refine wp_region_later (w0:=wr) (S:=fun _=>False) (Mod.refl _ _) (by kernel_rfl) (by kernel_rfl) ?_
     refine wpQuiet_v rfl (.agg V) (by rintro _ ⟨z,rfl⟩; exact run_load_v rfl rfl (hlv.out z.val (hbz.out z).1)) ?_
     simp only [Act.put,List.setIfInBounds_toArray,List.set_cons_succ,List.set_cons_zero]
     iterate 3 (go_big_quiet_step (fail))
     refine wpQuiet_v rfl (.slice (some a) (m + 1) cap) (by rintro _ ⟨z,rfl⟩; exact run_slS hle rfl rfl rfl) ?_
     simp only [Act.put,List.setIfInBounds_toArray,List.set_cons_succ,List.set_cons_zero]
     go_big_quiet_step (fail)
     go_big_quiet_step (((go_at_call 132; with_reducible exact Calls.later (hc1.out _))))
     go_big_quiet_step (fail)
     refine wpQuiet_nil ?_
     rintro _ ⟨z,rfl⟩
     obtain ⟨hB,hF,hb⟩:=hbz.out z
     clear hbz hc1
     generalize z.val = w3 at *
     clear z
     by_cases hc0:c = 0
     ·subst hc0
      have hA3:=Lib.hid (hA1.out rfl)
      clear hA1 hA2
      go_wp2_with fail
      go_roundw
      case rel=>exact ⟨m + 1,by omega,by simp,hA3,hB,hF,hb⟩
      case measure=>simp [intOf]; omega
     ·have hg:=hA2.out hc0
      have d1:(c == 0) = false:=beq_eq_false_iff_ne.2 hc0
      have d2:(c != 0) = true:=by rw [bne,d1]; rfl
      have HF:=Lib.hid hF
      clear hA1 hA2 hF
      go_wp2_with (refine wpList_store_row2 rfl 198 _ _ rfl rfl (w.heap.size + 1) rfl #[.int .i64 0,.int .i64 0,.int .i64 0] #[.int .i64 c,.int .i64 2,.int .i64 (m:Int)] 198 HF.out rfl rfl (fa_one _ _ _) (fa_size _ _ _) ?_; intro wz hBz hmz)
      exact bodyPost_ret (results_cell_row rfl _ _ (w.heap.size + 1) _ _ _ _ rfl hBz Tryz.underlying198 rfl (fa_size _ _ _)) rfl ⟨hb.trans (hmz.below hb.size (fun x hx=>by omega)),.inr ⟨hg,c,2,m,hc0,rfl⟩⟩
    ·obtain rfl:m = ln:=by omega
     have hb0:=hcb.out wr hb
     clear hcs hcb
     go_wp2_with fail
     refine hb0.mono ?_
     rintro e w3 ⟨rfl,hb3⟩
     replace hB:=hB.mod ((Mod.refl (fun _=>False) _).after hb3) (fun h=>h)
     replace hF:=hF.mod ((Mod.refl (fun _=>False) _).after hb3) (fun h=>h)
     replace hb:=hb.trans (hb3.mono hb.size)
     have hl3:=Lib.hid (hlv.out _ hB)
     have hc3:=hcl.out w3 hb
     clear hb0 hb3 hcl hlv
     go_upto_region 16 with fail
     go_wp2_with (refine wpList_load_v rfl 59 _ rfl ⟨w.heap.size,0,none⟩ rfl _ hl3.out ?_)
     refine hc3.mono ?_
     clear hc3 hl3
     rintro e w4 ⟨rfl,hb4⟩
     replace hB:=Lib.hid (hB.mod ((Mod.refl (fun _=>False) _).after hb4) (fun h=>h))
     replace hF:=Lib.hid (hF.mod ((Mod.refl (fun _=>False) _).after hb4) (fun h=>h))
     replace hb:=Lib.hid (hb.trans (hb4.mono hb.size))
     clear hb4
     go_upto_region 17 with (refine wpList_store_new rfl 53 _ _ rfl rfl rfl _ #[.int .i64 lx,.int .i64 ly] _ rfl rfl (pair_one _ _) (pl_size _ _) ?_)
     generalize hbP:w4.heap.size = bP
     refine wp_world' (fun wx=>Blk wx w.heap.size V 59∧Blk wx (w.heap.size + 1) #[.int .i64 0,.int .i64 0,.int .i64 0] 198∧Blk wx bP #[.int .i64 lx,.int .i64 ly] 53∧Below w.heap.size w wx)
      ⟨hB.out.alloc _,hF.out.alloc _,by rw [← hbP]; exact Blk.new _ _ _,hb.out.alloc hb.out.size _⟩ ?_
     clear hbP hB hF hb
     rintro w5 ⟨hB5,hF5,hP5,hb5⟩
     have hbz:=Lib.hid (fun z:Later (fun _=>False) w5=>(⟨hF5.mod z.mod (fun h=>h),hb5.trans (z.mod.below hb5.size (fun _ h=>h.elim))⟩:Blk z.val (w.heap.size + 1) #[.int .i64 0,.int .i64 0,.int .i64 0] 198∧Below w.heap.size w z.val))
     have hPz:=Lib.hid (fun z:Later (fun _=>False) w5=>run_load_row' (P:=Tryz.prog) z.val bP 53 #[.int .i64 lx,.int .i64 ly] 53 _ (hP5.mod z.mod (fun h=>h)) Tryz.underlying53 rfl (pl_size _ _))
     have hVz:=Lib.hid (fun z:Later (fun _=>False) w5=>hVp.out z.val (hB5.mod z.mod (fun h=>h)))
     have hK4:=Lib.hid (fun z:Later (fun _=>False) w5=>z.cell (hB5.cell g4) (fun h=>h))
     have s3:IntKind.i64.wrap (lt + d) = lt + d:=IntWalk.i64_in _ (by omega)
     have hk4:=hK4.out
     have hG:Hid (G↔lt + d≤en):=Lib.hid ⟨fun g=>(hiff.out.1 g).2,fun h=>hiff.out.2 ⟨hA.out,h⟩⟩
     clear hB5 hF5 hP5 hb5 hiff hA hVp
     by_cases hlate:en < lt + d
     ·have hg:¬ G:=fun g=>by have:=hG.out.1 g; omega
      clear hG
      refine wp_region_later (w0:=w5) (S:=fun _=>False) (Mod.refl _ _) (by kernel_rfl) (by kernel_rfl) ?_
      go_big_quiet_step (fail)
      refine wpQuiet_v rfl (.agg #[.int .i64 lx,.int .i64 ly]) (by rintro _ ⟨z,rfl⟩; exact run_load_v rfl rfl (hPz.out z)) ?_
      simp only [Act.put,List.setIfInBounds_toArray,List.set_cons_succ,List.set_cons_zero]
      go_big_quiet_step (fail)
      refine wpQuiet_v rfl (.agg #[.int .i64 x,.int .i64 y]) (by rintro _ ⟨z,rfl⟩; exact run_load_v rfl rfl (hVz.out z)) ?_
      simp only [Act.put,List.setIfInBounds_toArray,List.set_cons_succ,List.set_cons_zero]
      go_big_quiet_step (((go_at_call 105; with_reducible exact Calls.later (hdc.out _))))
      iterate 4 (go_big_quiet_step (fail))
      refine wpQuiet_nil ?_
      rintro _ ⟨z,rfl⟩
      obtain ⟨hF,hb⟩:=hbz.out z
      clear hbz hPz hVz hK4 hk4 hdc
      generalize z.val = w6 at *
      clear z
      have HF:=Lib.hid hF
      clear hF
      go_wp2_with (refine wpList_store_row2 rfl 198 _ _ rfl rfl (w.heap.size + 1) rfl #[.int .i64 0,.int .i64 0,.int .i64 0] #[.int .i64 9,.int .i64 3,.int .i64 (m:Int)] 198 HF.out rfl rfl (fa_one _ _ _) (fa_size _ _ _) ?_; intro wz hBz hmz)
      exact bodyPost_ret (results_cell_row rfl _ _ (w.heap.size + 1) _ _ _ _ rfl hBz Tryz.underlying198 rfl (fa_size _ _ _)) rfl ⟨hb.trans (hmz.below hb.size (fun x hx=>by omega)),.inr ⟨hg,9,3,m,(by decide:(9:Int) ≠ 0),rfl⟩⟩
     ·have hg:G:=hG.out.2 (by omega)
      clear hG
      refine wp_region_later (w0:=w5) (S:=fun _=>False) (Mod.refl _ _) (by kernel_rfl) (by kernel_rfl) ?_
      go_big_quiet_step (fail)
      refine wpQuiet_v rfl (.agg #[.int .i64 lx,.int .i64 ly]) (by rintro _ ⟨z,rfl⟩; exact run_load_v rfl rfl (hPz.out z)) ?_
      simp only [Act.put,List.setIfInBounds_toArray,List.set_cons_succ,List.set_cons_zero]
      go_big_quiet_step (fail)
      refine wpQuiet_v rfl (.agg #[.int .i64 x,.int .i64 y]) (by rintro _ ⟨z,rfl⟩; exact run_load_v rfl rfl (hVz.out z)) ?_
      simp only [Act.put,List.setIfInBounds_toArray,List.set_cons_succ,List.set_cons_zero]
      go_big_quiet_step (((go_at_call 105; with_reducible exact Calls.later (hdc.out _))))
      iterate 4 (go_big_quiet_step (fail))
      refine wpQuiet_nil ?_
      rintro _ ⟨z,rfl⟩
      obtain ⟨hF,hb⟩:=hbz.out z
      clear hbz hPz hVz hK4 hk4 hdc
      generalize z.val = w6 at *
      clear z
      have HF:=Lib.hid hF
      clear hF
      go_wp2_with (refine wpList_store_row2 rfl 198 _ _ rfl rfl (w.heap.size + 1) rfl #[.int .i64 0,.int .i64 0,.int .i64 0] #[.int .i64 0,.int .i64 0,.int .i64 0] 198 HF.out rfl rfl (fa_one _ _ _) (fa_size _ _ _) ?_; intro wz hBz hmz)
      exact bodyPost_ret (results_cell_row rfl _ _ (w.heap.size + 1) _ _ _ _ rfl hBz Tryz.underlying198 rfl (fa_size _ _ _)) rfl ⟨hb.trans (hmz.below hb.size (fun x hx=>by omega)),.inl ⟨hg,rfl⟩⟩
end
end
end Go.Proofs.YtkaoflndbcfodaaGreat
