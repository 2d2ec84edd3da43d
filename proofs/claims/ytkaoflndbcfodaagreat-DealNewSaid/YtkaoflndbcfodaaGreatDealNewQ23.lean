/-
  The row 'DealNew': a pack of the texts L14 Dd28 Pcs, pruned to what the row uses.
-/
import Derived.Test.YtkaoflndbcfodaaGreatDealNewQ22
namespace Go.Proofs.YtkaoflndbcfodaaGreat
set_option maxHeartbeats 8000000
set_option maxRecDepth 100000
section
section
open Go.RowKit
section
variable {ρ:Operand→Value} {o:Oper} {w:World} {x y:Operand}
theorem run_ixWy14 {a:Addr} {n c k:Nat} (ho:o.op = .indexAddr 175 x y) (hx:ρ x = .slice (some a) n c) (hy:ρ y = .int .i64 k) (hk:k < n):(execOp ρ o).run Tryz.prog w = .ok (.value (.pointer (some (a.add (k * 4))))) w:=by
 have h0:(0:Int)≤(k:Int):=by omega
 have h1:(k:Int) < (n:Int):=by omega
 have h2:((k:Int)).toNat = k:=by omega
 unfold execOp
 simp only [ho,hx,hy]
 go_simp
theorem run_fld14 {a:Addr} (ho:o.op = .fieldAddr 150 x 3) (hx:ρ x = .pointer (some a)):(execOp ρ o).run Tryz.prog w = .ok (.value (.pointer (some (a.add 3)))) w:=by
 unfold execOp
 simp only [ho,hx]
 go_simp
end
theorem w4_size (u:W4):(Tryz.prog.info? 150).map (·.size) = some (w4V u).toArray.size:=by kernel_rfl
theorem lst4_snoc (b:W4) {r:List W4} {k:Nat} (hk:k < r.length):lst4 b (r.take (k + 1)) = if r[k].2.2.2 < (lst4 b (r.take k)).2.2.2 then r[k] else lst4 b (r.take k):=by
 rw [List.take_succ_eq_append_getElem hk,lst4_append]
 rfl
def w4O (R:Option W4):Array Value:=match R with | none=>#[.int .i64 0,.int .i64 0,.int .i64 0,.int .i64 0] | some p=>(w4V p).toArray
def LePost (w:World) (R:Option W4) (e:Ending) (w':World):Prop:=e = .returned (.tuple #[.agg (w4O R),.bool R.isSome])∧Below w.heap.size w w'
theorem least14_calls {fl:List Ve} {rows:List Rou2} {t:List Rq} (hP:PlnOk fl rows t) {r:Nat} (hr:r < t.length) (hw:whereP rows (r:Int) < 0) (qF q qT:Option Addr) (cF c cT:Nat) (qs:List (Option Addr × Nat)) (w:World) (hF:Els w qF 5 (fl.map veR)) (hR:RwIn w q rows qs) (hT:Els w qT 10 (t.map rqV)):
  Calls Tryz.prog 70 #[.slice qF fl.length cF,.slice q fl.length c,.slice qT t.length cT,.int .i64 (r:Int)] w (LePost w (prcW fl rows t r fl.length)):=by
 have hways:=Lib.hid (fun wx (hb:Below w.heap.size w wx)=>ways14_calls hP hr hw qF q qT cF c cT qs wx (hF.below hb) (hR.below hb) (hT.below hb))
 have hlen:=w4P_len fl rows t (r:Int) fl.length
 have hN:=hP.many
 have hm:fl.length≤4:=hN.2
 rw [← min4_W hP (by omega) hw fl.length (Nat.le_refl _)]
 generalize w4P fl rows t (r:Int) fl.length = L at *
 have hL2:L.length≤2000:=by omega
 clear hlen hN hm hP hw hF hR hT hr
 have hbz:∀ w,(Instr.build 150 #[]).run Tryz.prog w = .ok (.agg #[.int .i64 0,.int .i64 0,.int .i64 0,.int .i64 0]) w:=fun w=>by kernel_rfl
 go_enter Tryz.func70,Tryz.ntmps70
 go_upto_region 1 with fail
 refine wp_world' (fun wx=>Blk wx w.heap.size #[.int .i64 0,.int .i64 0,.int .i64 0,.int .i64 0] 150∧Below w.heap.size w wx) ⟨Blk.new _ _ _,new_below _ _⟩ ?_
 rintro w1 ⟨hZ,hb⟩
 have hw1:=hways.out w1 hb
 have HZ:=Lib.hid hZ
 clear hways hZ
 go_wp2_with fail
 refine hw1.mono ?_
 clear hw1
 rintro e w2 ⟨hb2,q2,d2,rfl,hE⟩
 replace HZ:=Lib.hid (HZ.out.mod ((Mod.refl (fun _=>False) _).after hb2) (fun h=>h))
 have Hb:=Lib.hid (hb.trans (hb2.mono hb.size))
 clear hb hb2
 have HE:=Lib.hid hE
 clear hE
 cases L with
 | nil=>
  go_wp2_with (refine wpList_store_row2 rfl 150 _ _ rfl rfl w.heap.size rfl #[.int .i64 0,.int .i64 0,.int .i64 0,.int .i64 0] #[.int .i64 0,.int .i64 0,.int .i64 0,.int .i64 0] 150 HZ.out rfl rfl (w4_one (0,(0,0,0))) (w4_size (0,(0,0,0))) ?_; intro wz hBz hmz)
  exact bodyPost_ret (results_cell_tmp rfl _ _ w.heap.size _ _ _ _ rfl hBz Tryz.underlying150 rfl (w4_size (0,(0,0,0)))) rfl ⟨rfl,Hb.out.trans (hmz.below Hb.out.size (fun b e=>by omega))⟩
 | cons b r0=>
  obtain ⟨n,hnn⟩:∃ n,(b :: r0).length = n:=⟨_,rfl⟩
  have hn1:n = r0.length + 1:=by rw [← hnn]; rfl
  rw [hnn] at hL2 ⊢
  obtain ⟨a,rfl⟩:=HE.out.some_of (k:=0) (by simp)
  have hlk:=Lib.hid (fun wx (h:Below w2.heap.size w2 wx) (k:Nat) (hk:k < (b :: r0).length)=>(by
   have:=(HE.out.below h).load (P:=Tryz.prog) (a:=a) rfl (k:=k) (by simpa using hk) (ty:=150) Tryz.underlying150 rfl (by kernel_rfl)
   rwa [List.getElem_map] at this:(loadVar 150 (a.add (k * 4))).run Tryz.prog wx = .ok (.agg (w4V (b :: r0)[k]).toArray) wx))
  have hl0:=Lib.hid (show (loadVar 150 (a.add (0 * 4))).run Tryz.prog w2 = .ok (.agg (w4V b).toArray) w2 from hlk.out w2 (Below.refl _ _) 0 (by simp))
  have hst:=Lib.hid (fun k (hk:k < r0.length)=>lst4_snoc b hk)
  have hck:=Lib.hid (fun wx (h:Below w2.heap.size w2 wx) (k:Nat) (hk:k < r0.length)=>(by
   have:=(HE.out.below h).one (a:=a) rfl (k:=k + 1) (by simp; omega) 3 (.int .i64 r0[k].2.2.2) (by simp [w4V])
   exact run_i64S9 this:(loadVar 3 ((a.add ((k + 1) * 4)).add 3)).run Tryz.prog wx = .ok (.int .i64 r0[k].2.2.2) wx))
  have hlkS:=Lib.hid (fun wx (h:Below w2.heap.size w2 wx) (k:Nat) (hk:k < r0.length)=>(by
   have:=hlk.out wx h (k + 1) (by simp; omega)
   exact this:(loadVar 150 (a.add ((k + 1) * 4))).run Tryz.prog wx = .ok (.agg (w4V r0[k]).toArray) wx))
  have hnz:((n:Int) == 0) = false:=beq_eq_false_iff_ne.2 (by omega)
  have hn0:0 < n:=by omega
  have hfin:Hid (lst4 b (r0.take (n - 1)) = lst4 b r0):=Lib.hid (by rw [hn1,Nat.add_sub_cancel,List.take_length])
  have hB1:=Lib.hid (Blk.new w2 (w4V b).toArray 150)
  have hR1:=Lib.hid (HZ.out.alloc (.cells (w4V b).toArray 150))
  have hbn:=Lib.hid (new_below w2 (.cells (w4V b).toArray 150))
  have hlt:=HZ.out.lt
  replace hn1:=Lib.hid hn1
  clear HE hnn hlk
  go_upto_region 5 with (first | (refine wpList_v rfl (.pointer (some (a.add (0 * 4)))) (run_ixWy14 (k:=0) rfl rfl rfl (by omega)) ?_) | (refine wpList_load_v rfl 150 _ rfl (a.add (0 * 4)) rfl _ hl0.out ?_) |
   (refine wpList_store_new rfl 150 _ _ rfl rfl rfl _ (w4V b).toArray _ rfl rfl (w4_one _) (by kernel_rfl) ?_))
  obtain ⟨g,hg⟩:∃ g,w2.heap.size = g:=⟨_,rfl⟩
  refine wp_world' (fun wx=>Blk wx g (w4V b).toArray 150∧Blk wx w.heap.size #[.int .i64 0,.int .i64 0,.int .i64 0,.int .i64 0] 150∧Below w2.heap.size w2 wx) ⟨by rw [← hg]; exact hB1.out,hR1.out,hbn.out⟩ ?_
  clear hB1 hR1 hbn hl0
  rintro w3 ⟨hG,hR,hb⟩
  rw [hg] at hlt ⊢
  replace hg:=Lib.hid hg
  replace hG:=Lib.hid hG
  replace hb:=Lib.hid hb
  clear hR
  go_wp2_with fail
  go_loopw [12] (fun s12 wx=>∃ m:Nat,(1≤m∧m≤n)∧s12 = .int .i64 m∧Blk wx g (w4V (lst4 b (r0.take (m - 1)))).toArray 150∧Below w2.heap.size w2 wx) (fun s12 _=>n - (intOf s12).toNat)
  case atStart=>exact ⟨1,⟨Nat.le_refl _,by omega⟩,rfl,hG.out,hb.out⟩
  case round=>
   clear hG hb
   obtain ⟨m,hm,rfl,hG,hb⟩:=hrel
   by_cases hlt1:m < n
   ·have hltI:(m:Int) < (n:Int):=by omega
    have hm0:(0:Int)≤(m:Int):=by omega
    have s1:IntKind.i64.wrap ((m:Int) + 1) = (m:Int) + 1:=IntWalk.i64_in _ (by omega)
    have hk:m - 1 < r0.length:=by have:=hn1.out; omega
    have hm1:m - 1 + 1 = m:=by omega
    have hu1:=fun wx h=>hck.out wx h (m - 1) hk
    have hu2:=fun wx h=>hlkS.out wx h (m - 1) hk
    have hu3:=hst.out (m - 1) hk
    rw [hm1] at hu1 hu2 hu3
    obtain ⟨u,hu⟩:∃ u,r0[m - 1] = u:=⟨_,rfl⟩
    rw [hu] at hu1 hu2 hu3
    obtain ⟨B,hBB⟩:∃ B,lst4 b (r0.take (m - 1)) = B:=⟨_,rfl⟩
    rw [hBB] at hG hu3
    have hc1:=Lib.hid (fun z:Later (fun _=>False) wr=>hu1 z.val (hb.trans (z.mod.below hb.size (fun _ h=>h.elim))))
    have hc2:=Lib.hid (fun z:Later (fun _=>False) wr=>(show (loadVar 3 ⟨g,3,none⟩).run Tryz.prog z.val = .ok (.int .i64 B.2.2.2) z.val from run_i64S9 ((hG.mod z.mod (fun h=>h)).cell (i:=3) (v:=.int .i64 B.2.2.2) rfl)))
    have hnx:=Lib.hid (fun z:Later (fun _=>False) wr=>(⟨hG.mod z.mod (fun h=>h),hb.trans (z.mod.below hb.size (fun _ h=>h.elim))⟩:Blk z.val g (w4V B).toArray 150∧Below w2.heap.size w2 z.val))
    replace hu1:=Lib.hid hu1
    replace hu2:=Lib.hid hu2
    replace hu3:=Lib.hid hu3
    clear hu hBB hk hm1 hG hb
    go_upto_region 8 with fail
    refine wp_region_later (w0:=wr) (S:=fun _=>False) (Mod.refl _ _) (by kernel_rfl) (by kernel_rfl) ?_
    go_big_quiet_step (fail)
    go_big_quiet_step (fail)
    refine wpQuiet_v rfl (.pointer (some (a.add (m * 4)))) (by rintro _ ⟨z,rfl⟩; exact run_ixWy14 (k:=m) rfl rfl rfl hlt1) ?_
    simp only [Act.put,List.setIfInBounds_toArray,List.set_cons_succ,List.set_cons_zero]
    refine wpQuiet_v rfl (.pointer (some ((a.add (m * 4)).add 3))) (by rintro _ ⟨z,rfl⟩; exact run_fld14 rfl rfl) ?_
    simp only [Act.put,List.setIfInBounds_toArray,List.set_cons_succ,List.set_cons_zero]
    refine wpQuiet_v rfl (.int .i64 u.2.2.2) (by rintro _ ⟨z,rfl⟩; exact run_load_v rfl rfl (hc1.out z)) ?_
    simp only [Act.put,List.setIfInBounds_toArray,List.set_cons_succ,List.set_cons_zero]
    go_big_quiet_step (fail)
    refine wpQuiet_v rfl (.int .i64 B.2.2.2) (by rintro _ ⟨z,rfl⟩; exact run_load_v rfl rfl (hc2.out z)) ?_
    simp only [Act.put,List.setIfInBounds_toArray,List.set_cons_succ,List.set_cons_zero]
    go_big_quiet_step (fail)
    refine wpQuiet_nil ?_
    rintro _ ⟨z,rfl⟩
    obtain ⟨hG,hb⟩:=hnx.out z
    replace hG:=Lib.hid hG
    replace hb:=Lib.hid hb
    generalize z.val = w4 at *
    clear hc1 hc2 hnx hu1
    by_cases hlt2:u.2.2.2 < B.2.2.2
    ·have hu4:=hu3.out
     rw [if_pos hlt2] at hu4
     have hd1:decide (u.2.2.2 < B.2.2.2) = true:=decide_eq_true hlt2
     have hl5:=Lib.hid (hu2.out w4 hb.out)
     replace hu4:=Lib.hid hu4
     clear hu3
     go_wp2_with (first | (refine wpList_v rfl (.pointer (some (a.add (m * 4)))) (run_ixWy14 (k:=m) rfl rfl rfl hlt1) ?_) | (refine wpList_load_v rfl 150 _ rfl (a.add (m * 4)) rfl _ hl5.out ?_) |
      (refine wpList_store_row rfl 150 _ _ rfl rfl g rfl _ (w4V u).toArray _ hG.out rfl rfl (w4_one _) (by kernel_rfl) ?_; intro w5 hB5 hm5))
     have hb5:=Lib.hid (hb.out.trans (hm5.below hb.out.size (fun k (hk:k = g)=>by have:=hg.out; omega)))
     replace hB5:=Lib.hid hB5
     go_roundw
     case rel=>exact ⟨m + 1,by omega,by simp,by rw [Nat.add_sub_cancel,hu4.out]; exact hB5.out,hb5.out⟩
     case measure=>simp [intOf]; omega
    ·have hu4:=hu3.out
     rw [if_neg hlt2] at hu4
     have hd1:decide (u.2.2.2 < B.2.2.2) = false:=decide_eq_false hlt2
     replace hu4:=Lib.hid hu4
     clear hu3
     go_wp2_with fail
     go_roundw
     case rel=>exact ⟨m + 1,by omega,by simp,by rw [Nat.add_sub_cancel,hu4.out]; exact hG.out,hb.out⟩
     case measure=>simp [intOf]; omega
   ·obtain rfl:m = n:=by omega
    rw [hfin.out] at hG
    have hlB:=Lib.hid (run_load_row' (P:=Tryz.prog) wr g 150 _ 150 _ hG Tryz.underlying150 rfl (by kernel_rfl))
    have HR3:=Lib.hid (HZ.out.mod ((Mod.refl (fun _=>False) _).after hb) (fun h=>h))
    have Hb3:=Lib.hid (Hb.out.trans (hb.mono Hb.out.size))
    clear hG hb
    go_wp2_with (first | (refine wpList_load_v rfl 150 _ rfl ⟨g,0,none⟩ rfl _ hlB.out ?_) |
     (refine wpList_store_row rfl 150 _ _ rfl rfl w.heap.size rfl _ (w4V (lst4 b r0)).toArray _ HR3.out rfl rfl (w4_one _) (by kernel_rfl) ?_; intro w5 hB5 hm5))
    have hb5:=Hb3.out.trans (hm5.below Hb3.out.size (fun k (hk:k = w.heap.size)=>by omega))
    exact bodyPost_ret (results_cell_tmp rfl _ _ w.heap.size _ _ _ _ rfl hB5 Tryz.underlying150 rfl (w4_size _)) rfl ⟨rfl,hb5⟩
end
end
section
section
open Go.RowKit
def hdV {α:Type} (X:List (List α)) (qs:List (Option Addr × Nat)):List (List Value):=(List.range X.length).map fun i=>[.slice (qs.getD i (none,0)).1 (X.getD i []).length (qs.getD i (none,0)).2]
theorem hdV_size {α:Type} (X:List (List α)) (qs:List (Option Addr × Nat)):(hdV X qs).length = X.length:=by simp [hdV]
theorem hd_cell {α:Type} {w:World} {a:Addr} {X:List (List α)} {qs:List (Option Addr × Nat)} (h:Els w (some a) 1 (hdV X qs)) {i:Nat} (hi:i < X.length):w.cell? (a.add i) = some (.slice (qs.getD i (none,0)).1 (X.getD i []).length (qs.getD i (none,0)).2):=by
 have:=h.cells a rfl i [.slice (qs.getD i (none,0)).1 (X.getD i []).length (qs.getD i (none,0)).2] 0 _ (by simp [hdV,hi]) rfl
 simpa using this
structure RdIn (w:World) (F:Nat→Prop) (d gR:Nat) (fls:List (List Ve)) (Rs:List (List Rou2)) (t:List Rq) (qF:Option Addr) (cF:Nat) (pf:List (Option Addr × Nat)) (cR:Nat) (pr:List (Option Addr × Nat)) (qss:List (List (Option Addr × Nat))) (qT:Option Addr) (cT:Nat) (vH:Value):Prop where
 box:Blk w d #[.slice qF fls.length cF,.slice (some ⟨gR,0,none⟩) fls.length cR,.slice qT t.length cT,vH] 40
 fle:Els w qF 1 (hdV fls pf)
 flt:∀ c,c < fls.length→Els w (pf.getD c (none,0)).1 5 ((fls.getD c []).map veR)
 req:Els w qT 10 (t.map rqV)
 tb:∃ C,Blk w gR C 106
 rts:Els w (some ⟨gR,0,none⟩) 1 (hdV Rs pr)
 rws:∀ c,c < fls.length→RwIn w (pr.getD c (none,0)).1 (Rs.getD c []) (qss.getD c [])
 nd:¬ F d∧d ≠ gR∧d < w.heap.size
 fF:∀ a,qF = some a→fls ≠ []→F a.block
 fl:∀ c,c < fls.length→∀ a,(pf.getD c (none,0)).1 = some a→fls.getD c [] ≠ []→F a.block
 fT:∀ a,qT = some a→t ≠ []→F a.block
 fr:∀ c,c < fls.length→∀ a,(pr.getD c (none,0)).1 = some a→Rs.getD c [] ≠ []→F a.block
 fs:∀ c,c < fls.length→∀ i a,((qss.getD c []).getD i (none,0)).1 = some a→(Rs.getD c []).getD i [] ≠ []→F a.block
 nR:¬ F gR
 lt:(∀ k,F k→k < w.heap.size)∧gR < w.heap.size
 len:Rs.length = fls.length
 lenp:pr.length = fls.length∧qss.length = fls.length
section
variable {w w':World} {F:Nat→Prop} {d gR:Nat} {fls:List (List Ve)} {Rs:List (List Rou2)} {t:List Rq} {qF qT:Option Addr} {cF cR cT:Nat} {pf pr:List (Option Addr × Nat)} {qss:List (List (Option Addr × Nat))} {vH:Value}
theorem RdIn.mod (h:RdIn w F d gR fls Rs t qF cF pf cR pr qss qT cT vH) {S:Nat→Prop} (hm:Mod S w w') (hs:∀ k,S k→¬ F k) (hR:¬ S gR) (hd:¬ S d):RdIn w' F d gR fls Rs t qF cF pf cR pr qss qT cT vH:=
 have hm':=hm.size
 ⟨h.box.mod hm hd,els_modP h.fle hm (fun a ha h0 s=>hs _ s (h.fF a ha (fun e=>h0 (by rw [e]; rfl)))),
  fun c hc=>els_modP (h.flt c hc) hm (fun a ha h0 s=>hs _ s (h.fl c hc a ha (fun e=>h0 (by rw [e]; rfl)))),
  els_modP h.req hm (fun a ha h0 s=>hs _ s (h.fT a ha (fun e=>h0 (by rw [e]; rfl)))),(by obtain ⟨C,hC⟩:=h.tb; exact ⟨C,hC.mod hm hR⟩),
  els_modP h.rts hm (fun a ha _ s=>(by cases ha; exact hR s)),
  fun c hc=>⟨els_modP (h.rws c hc).rws hm (fun a ha h0 s=>hs _ s (h.fr c hc a ha (fun e=>h0 (by rw [e]; rfl)))),fun i hi=>els_modP ((h.rws c hc).row i hi) hm (fun a ha h0 s=>hs _ s (h.fs c hc i a ha (fun e=>h0 (by rw [e]; rfl)))),(h.rws c hc).cap⟩,
  ⟨h.nd.1,h.nd.2.1,Nat.lt_of_lt_of_le h.nd.2.2 hm'⟩,h.fF,h.fl,h.fT,h.fr,h.fs,h.nR,⟨fun k hk=>Nat.lt_of_lt_of_le (h.lt.1 k hk) hm',Nat.lt_of_lt_of_le h.lt.2 hm'⟩,h.len,h.lenp⟩
theorem RdIn.below (h:RdIn w F d gR fls Rs t qF cF pf cR pr qss qT cT vH) (hb:Below w.heap.size w w'):RdIn w' F d gR fls Rs t qF cF pf cR pr qss qT cT vH:=
 h.mod ((Mod.refl (fun _=>False) w).after hb) (fun _ h=>h.elim) (fun h=>h) (fun h=>h)
theorem RdIn.fcell (h:RdIn w F d gR fls Rs t qF cF pf cR pr qss qT cT vH) {c:Nat} (hc:c < fls.length):∃ a,qF = some a∧w.cell? (a.add c) = some (.slice (pf.getD c (none,0)).1 (fls.getD c []).length (pf.getD c (none,0)).2):=by
 obtain ⟨a,rfl⟩:=h.fle.some_of (k:=c) (by rw [hdV_size]; exact hc)
 exact ⟨a,rfl,hd_cell h.fle hc⟩
theorem RdIn.rcell (h:RdIn w F d gR fls Rs t qF cF pf cR pr qss qT cT vH) {c:Nat} (hc:c < fls.length):w.cell? ((⟨gR,0,none⟩:Addr).add c) = some (.slice (pr.getD c (none,0)).1 (Rs.getD c []).length (pr.getD c (none,0)).2):=
 hd_cell h.rts (by rw [h.len]; exact hc)
end
section
variable {ρ:Operand→Value} {o:Oper} {w:World} {x y z u:Operand}
theorem run_ixF28 {a:Addr} {n c k:Nat} (ho:o.op = .indexAddr 36 x y) (hx:ρ x = .slice (some a) n c) (hy:ρ y = .int .i64 k) (hk:k < n):(execOp ρ o).run Tryz.prog w = .ok (.value (.pointer (some (a.add k)))) w:=by
 have h0:(0:Int)≤(k:Int):=by omega
 have h1:(k:Int) < (n:Int):=by omega
 have h2:((k:Int)).toNat = k:=by omega
 unfold execOp
 simp only [ho,hx,hy]
 go_simp
theorem run_ixR28 {a:Addr} {n c k:Nat} (ho:o.op = .indexAddr 37 x y) (hx:ρ x = .slice (some a) n c) (hy:ρ y = .int .i64 k) (hk:k < n):(execOp ρ o).run Tryz.prog w = .ok (.value (.pointer (some (a.add k)))) w:=by
 have h0:(0:Int)≤(k:Int):=by omega
 have h1:(k:Int) < (n:Int):=by omega
 have h2:((k:Int)).toNat = k:=by omega
 unfold execOp
 simp only [ho,hx,hy]
 go_simp
theorem run_cF28 {p:Addr} {q:Option Addr} {n c:Nat} (h:w.cell? p = some (.slice q n c)):(loadVar 36 p).run Tryz.prog w = .ok (.slice q n c) w:=by go_simp
theorem run_cR28 {p:Addr} {q:Option Addr} {n c:Nat} (h:w.cell? p = some (.slice q n c)):(loadVar 37 p).run Tryz.prog w = .ok (.slice q n c) w:=by go_simp
theorem run_cV28 {p:Addr} {q:Option Addr} {n c:Nat} (h:w.cell? p = some (.slice q n c)):(loadVar 60 p).run Tryz.prog w = .ok (.slice q n c) w:=by go_simp
theorem run_cS28 {p:Addr} {q:Option Addr} {n c:Nat} (h:w.cell? p = some (.slice q n c)):(loadVar 106 p).run Tryz.prog w = .ok (.slice q n c) w:=by go_simp
theorem run_cT28 {p:Addr} {q:Option Addr} {n c:Nat} (h:w.cell? p = some (.slice q n c)):(loadVar 38 p).run Tryz.prog w = .ok (.slice q n c) w:=by go_simp
theorem run_alloc28 (ho:o.op = .alloc 150):(execOp ρ o).run Tryz.prog w = .ok (.value (.pointer (some ⟨w.heap.size,0,none⟩))) (w.alloc (.cells #[.int .i64 0,.int .i64 0,.int .i64 0,.int .i64 0] 150)):=by
 unfold execOp
 simp only [ho]
 kernel_rfl
theorem run_call28 {F:FuncId} {T1 T2 T3 T4:TypeId} {a b c d:Value} (ho:o.op = .call { callee:=.value (.func F),args:=#[x,y,z,u],argTypes:=#[T1,T2,T3,T4] }) (hx:ρ x = a) (hy:ρ y = b) (hz:ρ z = c) (hu:ρ u = d)
  (hF:(callFunc F #[a,b,c,d]).run Tryz.prog w = .ok (.enter F #[a,b,c,d]) w) (hf:ρ (.func F) = .func (.func F) #[] #[]:=by rfl):(execOp ρ o).run Tryz.prog w = .ok (.enter F #[a,b,c,d]) w:=by
 unfold execOp
 simp only [ho]
 go_simp
end
theorem w4O_one (R:Option W4):∀ v ∈ (w4O R).toList,v.oneCell' = true:=by
 cases R with
 | none=>simp [w4O,Value.oneCell']
 | some p=>exact w4_one p
theorem w4O_size (R:Option W4):(Tryz.prog.info? 150).map (·.size) = some (w4O R).size:=by
 cases R with
 | none=>exact w4_size (0,(0,0,0))
 | some p=>exact w4_size p
theorem getD_set28 {α:Type} (l:List α) (d:α) {i j:Nat} (x:α) (hi:i < l.length):(l.set i x).getD j d = if i = j then x else l.getD j d:=by
 rw [List.getD_eq_getElem?_getD,List.getElem?_set,List.getD_eq_getElem?_getD]
 by_cases e:i = j
 ·rw [if_pos e,if_pos e,if_pos hi]
  rfl
 ·rw [if_neg e,if_neg e]
theorem hdV_set {α:Type} (X:List (List α)) (qs:List (Option Addr × Nat)) {i:Nat} (hr:i < X.length) (hq:i < qs.length) (l:List α) (q:Option Addr) (d:Nat) (hi':i < (hdV X qs).length):
  (hdV X qs).set i ((hdV X qs)[i].set 0 (.slice q l.length d)) = hdV (X.set i l) (qs.set i (q,d)):=by
 apply List.ext_getElem?
 intro j
 have e1:(hdV X qs)[i].set 0 (.slice q l.length d) = [.slice q l.length d]:=by simp [hdV]
 rw [e1]
 by_cases hj:j < X.length
 ·have e2:(hdV (X.set i l) (qs.set i (q,d)))[j]? = some [.slice ((qs.set i (q,d)).getD j (none,0)).1 ((X.set i l).getD j []).length ((qs.set i (q,d)).getD j (none,0)).2]:=by simp [hdV,hj]
  rw [e2,getD_set28 _ _ _ hq,getD_set28 _ _ _ hr]
  by_cases hij:i = j
  ·subst hij
   rw [List.getElem?_set_self hi']
   simp
  ·rw [List.getElem?_set_ne hij,if_neg hij,if_neg hij]
   simp [hdV,hj]
 ·rw [List.getElem?_eq_none (by simp [hdV]; omega),List.getElem?_eq_none (by simp [hdV]; omega)]
def RowF (w:World) (F:Nat→Prop) (base:Nat) (q:Option Addr × Nat) (l:Rou2):Prop:=
 Els w q.1 2 (l.map stV)∧(l.length≤q.2∧q.2≤9223372036854775807)∧∀ a,q.1 = some a→l ≠ []→F a.block∨(base≤a.block∧∃ C,Blk w a.block C 125)
theorem RowF.mod {w w':World} {F:Nat→Prop} {base:Nat} {q:Option Addr × Nat} {l:Rou2} (h:RowF w F base q l) {S:Nat→Prop} (hm:Mod S w w') (h1:∀ k,F k→¬ S k) (h2:∀ g C,base≤g→Blk w g C 125→¬ S g):RowF w' F base q l:=by
 obtain ⟨a,b,c⟩:=h
 refine ⟨els_modP a hm (fun x hx h0=>?_),b,fun x hx h0=>?_⟩
 ·rcases c x hx (fun e=>h0 (by rw [e]; rfl)) with h | ⟨h,C,hB⟩
  ·exact h1 _ h
  ·exact h2 _ C h hB
 ·rcases c x hx h0 with h | ⟨h,C,hB⟩
  ·exact .inl h
  ·exact .inr ⟨h,C,hB.mod hm (h2 _ C h hB)⟩
theorem addr0_28 (g i:Nat):(⟨g,0,none⟩:Addr).add i = ⟨g,i,none⟩:=addr0P g i
def TyF (w:World) (F:Nat→Prop) (lo:Nat):Prop:=∀ k,F k→k < lo∨∃ C T,Blk w k C T∧T ≠ 3
theorem TyF.mod {w w':World} {F:Nat→Prop} {lo:Nat} (h:TyF w F lo) {S:Nat→Prop} (hm:Mod S w w') (hs:∀ k,S k→¬ F k):TyF w' F lo:=fun k hk=>by
 rcases h k hk with h1 | ⟨C,T,hB,hT⟩
 ·exact .inl h1
 ·exact .inr ⟨C,T,hB.mod hm (fun s=>hs _ s hk),hT⟩
theorem TyF.own {w:World} {F:Nat→Prop} {lo base n m k c:Nat} {p:Option Addr} {xs:List Value} (h:TyF w F lo) (hO:w.ownsRow base 3 n (.slice p k c) m xs) (hl:lo≤base):∀ a,p = some a→¬ F a.block:=fun a ha hF=>by
 obtain ⟨C,hB⟩:=own_blkB hO ha
 have hb:base≤a.block:=by
  subst ha
  rcases hO.2 with ⟨hv,_⟩ | ⟨g,cap,cur,hv,hg,_⟩
  ·cases hv
  ·cases hv; exact hg
 rcases h _ hF with h1 | ⟨C2,T,hB2,hT⟩
 ·omega
 ·have h1:w.heap[a.block]? = some (.cells C 3 (0,0)):=hB
  have h2:w.heap[a.block]? = some (.cells C2 T (0,0)):=hB2
  rw [h1] at h2
  cases h2
  exact hT rfl
theorem RdIn.put {w:World} {F:Nat→Prop} {d gR:Nat} {fls:List (List Ve)} {Rs:List (List Rou2)} {t:List Rq} {qF qT:Option Addr} {cF cR cT:Nat} {pf pr:List (Option Addr × Nat)} {qss:List (List (Option Addr × Nat))} {vH:Value}
  (h:RdIn w F d gR fls Rs t qF cF pf cR pr qss qT cT vH) {c:Nat} (hc:c < fls.length) {w1:World} (hm:Mod (fun _=>False) w w1) {N:List Rou2} {qs:List (Option Addr × Nat)} {q:Option Addr} {dN:Nat} (hE:Els w1 q 1 (rsV N qs N.length)) (hq:∀ a,q = some a→w.heap.size≤a.block∧∃ C,Blk w1 a.block C 82)
  (hI:∀ i,i < N.length→RowF w1 F w.heap.size (qs.getD i (none,0)) (N.getD i [])) (_hqs:qs.length = N.length):
  Mod (· = gR) w (w1.setCell ((⟨gR,0,none⟩:Addr).add c) (.slice q N.length dN))∧∃ F',(∀ k,F' k→F k∨w.heap.size≤k)∧(∀ lo,TyF w F lo→TyF (w1.setCell ((⟨gR,0,none⟩:Addr).add c) (.slice q N.length dN)) F' lo)∧RdIn (w1.setCell ((⟨gR,0,none⟩:Addr).add c) (.slice q N.length dN)) F' d gR fls (Rs.set c N) t qF cF pf cR (pr.set c (q,dN)) (qss.set c qs) qT cT vH:=by
 rw [addr0_28]
 have h1:=h.mod hm (fun _ h=>h.elim) (fun h=>h) (fun h=>h)
 have hm2:Mod (· = gR) w1 (w1.setCell ⟨gR,c,none⟩ (.slice q N.length dN)):=(Mod.refl (· = gR) w1).setCell (p:=⟨gR,c,none⟩) (fun _=>rfl) _
 have hmA:Mod (· = gR) w (w1.setCell ⟨gR,c,none⟩ (.slice q N.length dN)):=(hm.mono (fun _ _ h=>h.elim)).trans hm2
 have hs2:=hm2.size
 have hnF:∀ k,F k→¬ k = gR:=fun k hk e=>h.nR (e ▸ hk)
 have hgR:=h.lt.2
 obtain ⟨C,hC⟩:=h1.tb
 have hcR:c < Rs.length:=by rw [h.len]; exact hc
 have hcp:c < pr.length:=by rw [h.lenp.1]; exact hc
 have hcq:c < qss.length:=by rw [h.lenp.2]; exact hc
 have hrt:=els_setP hC h1.rts (K:=c) (by rw [hdV_size]; exact hcR) (J:=0) (by omega) (.slice q N.length dN)
 rw [Nat.mul_one,Nat.add_zero,hdV_set Rs pr hcR hcp N q dN] at hrt
 have hF':∀ k,(F k∨(∃ a,q = some a∧k = a.block)∨∃ i a,i < N.length∧(qs.getD i (none,0)).1 = some a∧N.getD i [] ≠ []∧k = a.block)→F k∨w.heap.size≤k:=fun k hk=>by
  rcases hk with hk | ⟨a,ha,rfl⟩ | ⟨i,a,hi,ha,h0,rfl⟩
  ·exact .inl hk
  ·exact .inr (hq a ha).1
  ·rcases (hI i hi).2.2 a ha h0 with h3 | h3
   ·exact .inl h3
   ·exact .inr h3.1
 have hFlt:∀ k,(F k∨(∃ a,q = some a∧k = a.block)∨∃ i a,i < N.length∧(qs.getD i (none,0)).1 = some a∧N.getD i [] ≠ []∧k = a.block)→k < w1.heap.size:=fun k hk=>by
  have hms:=hm.size
  rcases hk with hk | ⟨a,ha,rfl⟩ | ⟨i,a,hi,ha,h0,rfl⟩
  ·have:=h.lt.1 k hk; omega
  ·obtain ⟨_,C,hB⟩:=hq a ha; exact hB.lt
  ·rcases (hI i hi).2.2 a ha h0 with h3 | ⟨_,C,hB⟩
   ·have:=h.lt.1 _ h3; omega
   ·exact hB.lt
 refine ⟨hmA,fun k=>F k∨(∃ a,q = some a∧k = a.block)∨∃ i a,i < N.length∧(qs.getD i (none,0)).1 = some a∧N.getD i [] ≠ []∧k = a.block,hF',fun lo hl k hk=>?_,⟨h1.box.mod hm2 h.nd.2.1,els_modP h1.fle hm2 (fun a ha h0=>hnF _ (h.fF a ha (fun e=>h0 (by rw [e]; rfl)))),fun i hi=>els_modP (h1.flt i hi) hm2 (fun a ha h0=>hnF _ (h.fl i hi a ha (fun e=>h0 (by rw [e]; rfl)))),
  els_modP h1.req hm2 (fun a ha h0=>hnF _ (h.fT a ha (fun e=>h0 (by rw [e]; rfl)))),⟨_,hC.set c _⟩,hrt,fun i hi=>?_,⟨?_,h.nd.2.1,Nat.lt_of_lt_of_le h.nd.2.2 hmA.size⟩,fun a ha h0=>.inl (h.fF a ha h0),fun i hi a ha h0=>.inl (h.fl i hi a ha h0),fun a ha h0=>.inl (h.fT a ha h0),fun i hi a ha h0=>?_,fun i hi j a ha h0=>?_,?_,⟨fun k hk=>?_,?_⟩,by rw [List.length_set]; exact h.len,by rw [List.length_set,List.length_set]; exact h.lenp⟩⟩
 ·have hne:∀ k,(F k∨w.heap.size≤k)→¬ k = gR:=fun k hk e=>by
   rcases hk with hk | hk
   ·exact hnF k hk e
   ·omega
  have hb1:=hF' k hk
  rcases hk with hk | ⟨a,ha,rfl⟩ | ⟨i,a,hi,ha,h0,rfl⟩
  ·exact (hl.mod hmA (fun k e hk=>hnF k hk e)) k hk
  ·obtain ⟨_,C,hB⟩:=hq a ha
   exact .inr ⟨C,_,hB.mod hm2 (hne _ hb1),by decide⟩
  ·rcases (hI i hi).2.2 a ha h0 with h3 | ⟨_,C,hB⟩
   ·exact (hl.mod hmA (fun k e hk=>hnF k hk e)) _ h3
   ·exact .inr ⟨C,_,hB.mod hm2 (hne _ hb1),by decide⟩
 ·rw [getD_set28 _ _ _ hcp,getD_set28 _ _ _ hcR,getD_set28 _ _ _ hcq]
  by_cases e:c = i
  ·rw [if_pos e,if_pos e,if_pos e]
   refine ⟨els_modP hE hm2 (fun a ha _ e=>?_),fun j hj=>?_,fun j hj=>(hI j hj).2.1⟩
   ·have:=(hq a ha).1
    omega
   ·refine els_modP (hI j hj).1 hm2 (fun a ha h0 e=>?_)
    rcases (hI j hj).2.2 a ha (fun e=>h0 (by rw [e]; rfl)) with h3 | h3
    ·exact hnF _ h3 e
    ·have:=h3.1
     omega
  ·rw [if_neg e,if_neg e,if_neg e]
   have h4:=h1.rws i hi
   exact ⟨els_modP h4.rws hm2 (fun a ha h0=>hnF _ (h.fr i hi a ha (fun e=>h0 (by rw [e]; rfl)))),fun j hj=>els_modP (h4.row j hj) hm2 (fun a ha h0=>hnF _ (h.fs i hi j a ha (fun e=>h0 (by rw [e]; rfl)))),h4.cap⟩
 ·intro hk
  have:=h.nd.2.2
  rcases hF' _ hk with h3 | h3
  ·exact h.nd.1 h3
  ·omega
 ·rw [getD_set28 _ _ _ hcp] at ha
  rw [getD_set28 _ _ _ hcR] at h0
  by_cases e:c = i
  ·rw [if_pos e] at ha
   exact .inr (.inl ⟨a,ha,rfl⟩)
  ·rw [if_neg e] at ha h0
   exact .inl (h.fr i hi a ha h0)
 ·rw [getD_set28 _ _ _ hcq] at ha
  rw [getD_set28 _ _ _ hcR] at h0
  by_cases e:c = i
  ·rw [if_pos e] at ha h0
   have hj:j < N.length:=by
    rcases Nat.lt_or_ge j N.length with h | h
    ·exact h
    ·exact absurd (by rw [List.getD_eq_getElem?_getD,List.getElem?_eq_none h]; rfl) h0
   exact .inr (.inr ⟨j,a,hj,ha,h0,rfl⟩)
  ·rw [if_neg e] at ha h0
   exact .inl (h.fs i hi j a ha h0)
 ·intro hk
  rcases hF' _ hk with h3 | h3
  ·exact h.nR h3
  ·omega
 ·have:=hFlt k hk
  omega
 ·have:=hmA.size
  omega
theorem RdIn.hold {w:World} {F:Nat→Prop} {d gR:Nat} {fls:List (List Ve)} {Rs:List (List Rou2)} {t:List Rq} {qF qT:Option Addr} {cF cR cT:Nat} {pf pr:List (Option Addr × Nat)} {qss:List (List (Option Addr × Nat))} {vH:Value}
  (h:RdIn w F d gR fls Rs t qF cF pf cR pr qss qT cT vH) (v:Value):Mod (· = d) w (w.setCell ⟨d,3,none⟩ v)∧RdIn (w.setCell ⟨d,3,none⟩ v) F d gR fls Rs t qF cF pf cR pr qss qT cT v:=by
 have hm:Mod (· = d) w (w.setCell ⟨d,3,none⟩ v):=(Mod.refl (· = d) w).setCell (p:=⟨d,3,none⟩) (fun _=>rfl) _
 have hs:∀ k,F k→¬ k = d:=fun k hk e=>h.nd.1 (e ▸ hk)
 have hm':=hm.size
 refine ⟨hm,⟨h.box.set 3 v,els_modP h.fle hm (fun a ha h0=>hs _ (h.fF a ha (fun e=>h0 (by rw [e]; rfl)))),
  fun c hc=>els_modP (h.flt c hc) hm (fun a ha h0=>hs _ (h.fl c hc a ha (fun e=>h0 (by rw [e]; rfl)))),
  els_modP h.req hm (fun a ha h0=>hs _ (h.fT a ha (fun e=>h0 (by rw [e]; rfl)))),(by obtain ⟨C,hC⟩:=h.tb; exact ⟨C,hC.mod hm (fun e=>h.nd.2.1 e.symm)⟩),
  els_modP h.rts hm (fun a ha _=>(by cases ha; exact fun e=>h.nd.2.1 e.symm)),
  fun c hc=>⟨els_modP (h.rws c hc).rws hm (fun a ha h0=>hs _ (h.fr c hc a ha (fun e=>h0 (by rw [e]; rfl)))),fun i hi=>els_modP ((h.rws c hc).row i hi) hm (fun a ha h0=>hs _ (h.fs c hc i a ha (fun e=>h0 (by rw [e]; rfl)))),(h.rws c hc).cap⟩,
  ⟨h.nd.1,h.nd.2.1,Nat.lt_of_lt_of_le h.nd.2.2 hm'⟩,h.fF,h.fl,h.fT,h.fr,h.fs,h.nR,⟨fun k hk=>Nat.lt_of_lt_of_le (h.lt.1 k hk) hm',Nat.lt_of_lt_of_le h.lt.2 hm'⟩,h.len,h.lenp⟩⟩
end
end
section
section
open Go.RowKit
structure Pc where
 b:Nat
 gT:Nat
 gM:Nat
 N:Nat
 fl:List Ve
 rows:List Rou2
 F:Nat→Prop
def pc0:Pc:=⟨0,0,0,0,[],[],fun _=>False⟩
def PcAt (B:Nat) (w:World) (t:List Rq) (p:Pc):Prop:=PlanAt w p.F p.b p.gT p.gM p.N p.fl p.rows t∧PlnOk p.fl p.rows t∧∀ k,p.F k→B≤k
theorem PcAt.pst {B:Nat} {w:World} {t:List Rq} {p:Pc} (h:PcAt B w t p) (ht:t.length≤1000):PSt B w p.b p.gT p.gM p.N p.fl p.rows t:=by
 obtain ⟨h1,h2,h3⟩:=h
 obtain ⟨qT,dT,cT,qs,h⟩:=id h1
 exact ⟨⟨p.F,h1⟩,h2,ht,h3 _ h.fT,h3 _ h.fM,h.lt _ h.fT,h.lt _ h.fM⟩
theorem PcAt.own {B:Nat} {w:World} {t:List Rq} {p:Pc} (h:PcAt B w t p):p.F p.b∧p.F p.gT∧p.F p.gM∧∀ k,p.F k→k < w.heap.size:=by
 obtain ⟨⟨qT,dT,cT,qs,h1⟩,h2,h3⟩:=h
 exact ⟨h1.fb,h1.fT,h1.fM,h1.lt⟩
theorem PcAt.mod {B:Nat} {w w':World} {t:List Rq} {p:Pc} (h:PcAt B w t p) {S:Nat→Prop} (hm:Mod S w w') (hs:∀ k,S k→¬ p.F k):PcAt B w' t p:=⟨h.1.mod hm hs,h.2⟩
theorem PcAt.below {B:Nat} {w w':World} {t:List Rq} {p:Pc} (h:PcAt B w t p) (hb:Below w.heap.size w w'):PcAt B w' t p:=⟨h.1.below hb,h.2⟩
structure PcsAt (B:Nat) (w:World) (t:List Rq) (L:List Pc):Prop where
 tl:t.length≤1000
 at_:∀ p ∈ L,PcAt B w t p
 ap:∀ i j,i < L.length→j < L.length→i ≠ j→∀ k,(L.getD i pc0).F k→¬ (L.getD j pc0).F k
section
variable {B:Nat} {w w':World} {t:List Rq} {L:List Pc}
theorem PcsAt.get (h:PcsAt B w t L) {i:Nat} (hi:i < L.length):PcAt B w t (L.getD i pc0):=h.at_ _ (by
 rw [List.getD_eq_getElem?_getD,List.getElem?_eq_getElem hi]
 exact List.getElem_mem hi)
theorem PcsAt.below (h:PcsAt B w t L) (hb:Below w.heap.size w w'):PcsAt B w' t L:=⟨h.tl,fun p hp=>(h.at_ p hp).below hb,h.ap⟩
theorem PcsAt.mod (h:PcsAt B w t L) {S:Nat→Prop} (hm:Mod S w w') (hs:∀ p ∈ L,∀ k,S k→¬ p.F k):PcsAt B w' t L:=⟨h.tl,fun p hp=>(h.at_ p hp).mod hm (hs p hp),h.ap⟩
theorem PcsAt.turn (h:PcsAt B w t L) {i:Nat} (hi:i < L.length) {p:Pc} (hm:Mod (fun k=>k = (L.getD i pc0).gT∨k = (L.getD i pc0).gM) w w') (hp:PcAt B w' t p) (hF:∀ k,p.F k→(L.getD i pc0).F k∨w.heap.size≤k):PcsAt B w' t (L.set i p):=by
 have ho:=(h.get hi).own
 have hset:∀ j,j < L.length→(L.set i p).getD j pc0 = if i = j then p else L.getD j pc0:=fun j hj=>by
  rw [List.getD_eq_getElem?_getD,List.getElem?_set,List.getD_eq_getElem?_getD]
  by_cases e:i = j
  ·rw [if_pos e,if_pos e,if_pos hi]
   rfl
  ·rw [if_neg e,if_neg e]
 refine ⟨h.tl,fun q hq=>?_,fun a b ha hb hab k hk hk2=>?_⟩
 ·obtain ⟨j,hj,rfl⟩:=List.mem_iff_getElem.1 hq
  rw [List.length_set] at hj
  rw [List.getElem_set]
  by_cases e:i = j
  ·rw [if_pos e]
   exact hp
  ·rw [if_neg e]
   have hg:=h.get hj
   rw [List.getD_eq_getElem?_getD,List.getElem?_eq_getElem hj] at hg
   refine hg.mod hm (fun k hk hF2=>?_)
   have ha:=h.ap i j hi hj e k
   have ej:L.getD j pc0 = L[j]:=by rw [List.getD_eq_getElem?_getD,List.getElem?_eq_getElem hj]; rfl
   rw [ej] at ha
   refine ha ?_ hF2
   rcases hk with rfl | rfl
   ·exact ho.2.1
   ·exact ho.2.2.1
 ·rw [List.length_set] at ha hb
  rw [hset a ha] at hk
  rw [hset b hb] at hk2
  by_cases ea:i = a
  ·rw [if_pos ea] at hk
   rw [if_neg (fun e=>hab (ea.symm.trans e))] at hk2
   rcases hF k hk with h1 | h1
   ·subst ea
    exact h.ap i b hi hb hab k h1 hk2
   ·have:=(h.get hb).own.2.2.2 k hk2
    omega
  ·rw [if_neg ea] at hk
   by_cases eb:i = b
   ·rw [if_pos eb] at hk2
    rcases hF k hk2 with h1 | h1
    ·subst eb
     exact h.ap a i ha hi hab k hk h1
    ·have:=(h.get ha).own.2.2.2 k hk
     omega
   ·rw [if_neg eb] at hk2
    exact h.ap a b ha hb hab k hk hk2
theorem PcsAt.put (h:PcsAt B w t L) (hB:B≤w.heap.size) {i:Nat} (hi:i < L.length) (hN:(L.getD i pc0).N < 1000000) (req:Int) (hq:wf64 req):
  Calls Tryz.prog 11 #[.pointer (some ⟨(L.getD i pc0).b,0,none⟩),.int .i64 req] w fun e w'=>
   e = .returned (.tuple #[.int .i64 (pputP (L.getD i pc0).fl (L.getD i pc0).rows t req).2.1,.int .i64 (pputP (L.getD i pc0).fl (L.getD i pc0).rows t req).2.2])∧
   Mod (fun k=>k = (L.getD i pc0).gT∨k = (L.getD i pc0).gM) w w'∧
   ∃ F',(∀ k,F' k→(L.getD i pc0).F k∨w.heap.size≤k)∧PcsAt B w' t (L.set i { L.getD i pc0 with N:=(L.getD i pc0).N + 1,rows:=(pputP (L.getD i pc0).fl (L.getD i pc0).rows t req).1,F:=F' }):=by
 obtain ⟨h1,h2,h3⟩:=h.get hi
 refine (pput_calls h2 h1 hN req hq).mono ?_
 rintro e w' ⟨e1,q1,m1⟩
 have hF:∀ k,((L.getD i pc0).F k∨(w.heap.size≤k∧k < w'.heap.size))→(L.getD i pc0).F k∨w.heap.size≤k:=fun k hk=>by
  rcases hk with hk | hk
  ·exact .inl hk
  ·exact .inr hk.1
 refine ⟨e1,m1,_,hF,h.turn hi m1 ⟨q1,put_keeps h2 req,fun k hk=>?_⟩ hF⟩
 rcases hF k hk with hk | hk
 ·exact h3 k hk
 ·omega
theorem PcsAt.take (h:PcsAt B w t L) (hB:B≤w.heap.size) {i:Nat} (hi:i < L.length) (req:Int) (hq:wf64 req):
  Calls Tryz.prog 14 #[.pointer (some ⟨(L.getD i pc0).b,0,none⟩),.int .i64 req] w fun e w'=>e = .returned (.int .i64 (ptakP (L.getD i pc0).rows req).2)∧
   Mod (fun k=>k = (L.getD i pc0).gT∨k = (L.getD i pc0).gM) w w'∧
   ∃ F',(∀ k,F' k→(L.getD i pc0).F k∨w.heap.size≤k)∧PcsAt B w' t (L.set i { L.getD i pc0 with rows:=(ptakP (L.getD i pc0).rows req).1,F:=F' }):=by
 obtain ⟨h1,h2,h3⟩:=h.get hi
 refine (ptake_calls h2 h1 req hq).mono ?_
 rintro e w' ⟨e1,q1,m1⟩
 have hF:∀ k,((L.getD i pc0).F k∨(w.heap.size≤k∧k < w'.heap.size))→(L.getD i pc0).F k∨w.heap.size≤k:=fun k hk=>by
  rcases hk with hk | hk
  ·exact .inl hk
  ·exact .inr hk.1
 refine ⟨e1,m1,_,hF,h.turn hi m1 ⟨q1,take_keeps h2 req,fun k hk=>?_⟩ hF⟩
 rcases hF k hk with hk | hk
 ·exact h3 k hk
 ·omega
theorem PcsAt.nil (h:t.length≤1000):PcsAt B w t []:=⟨h,fun p hp=>(by cases hp),fun i j hi=>by simp at hi⟩
theorem PcsAt.more (h:PcsAt B w t L) (hb:Below w.heap.size w w') {p:Pc} (hp:PcAt B w' t p) (hF:∀ k,p.F k→w.heap.size≤k):PcsAt B w' t (L ++ [p]):=by
 have hg:∀ j,j < L.length→(L ++ [p]).getD j pc0 = L.getD j pc0:=fun j hj=>by
  rw [List.getD_eq_getElem?_getD,List.getElem?_append_left hj,List.getD_eq_getElem?_getD]
 have hl:(L ++ [p]).getD L.length pc0 = p:=by
  rw [List.getD_eq_getElem?_getD,List.getElem?_append_right (Nat.le_refl _),Nat.sub_self]
  rfl
 refine ⟨h.tl,fun q hq=>?_,fun a b ha hb' hab k hk hk2=>?_⟩
 ·rcases List.mem_append.1 hq with hq | hq
  ·exact (h.at_ q hq).below hb
  ·rw [List.mem_singleton] at hq
   rw [hq]
   exact hp
 ·rw [List.length_append,List.length_singleton] at ha hb'
  by_cases ea:a < L.length
  ·rw [hg a ea] at hk
   by_cases eb:b < L.length
   ·rw [hg b eb] at hk2
    exact h.ap a b ea eb hab k hk hk2
   ·obtain rfl:b = L.length:=by omega
    rw [hl] at hk2
    have:=(h.get ea).own.2.2.2 k hk
    have:=hF k hk2
    omega
  ·obtain rfl:a = L.length:=by omega
   rw [hl] at hk
   rw [hg b (by omega)] at hk2
   have:=(h.get (by omega:b < L.length)).own.2.2.2 k hk2
   have:=hF k hk
   omega
theorem PcsAt.ne (h:PcsAt B w t L) {i j:Nat} (hi:i < L.length) (hj:j < L.length) (hij:i ≠ j):(L.getD i pc0).b ≠ (L.getD j pc0).b:=fun e=>by
 have h1:=(h.get hi).own.1
 have h2:=(h.get hj).own.1
 rw [← e] at h2
 exact h.ap i j hi hj hij _ h1 h2
end
end
end
end Go.Proofs.YtkaoflndbcfodaaGreat
