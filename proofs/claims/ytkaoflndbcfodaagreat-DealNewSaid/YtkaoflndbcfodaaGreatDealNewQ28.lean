/-
  The row 'DealNew': a pack of the texts R28, pruned to what the row uses.
-/
import Derived.Test.YtkaoflndbcfodaaGreatDealNewQ23
namespace Go.Proofs.YtkaoflndbcfodaaGreat
set_option maxHeartbeats 8000000
set_option maxRecDepth 100000
section
open Go.RowKit
def RpI (F:Nat→Prop) (base:Nat) (N:List Rou2) (qs:List (Option Addr × Nat)) (v:Nat) (w:World):Prop:=∀ i,i < v→RowF w F base (qs.getD i (none,0)) (N.getD i [])
def RpPost (w:World) (F:Nat→Prop) (d gR:Nat) (fls:List (List Ve)) (Rs:List (List Rou2)) (t:List Rq) (qF:Option Addr) (cF:Nat) (pf:List (Option Addr × Nat)) (cR:Nat) (qT:Option Addr) (cT:Nat) (vH:Value) (c:Nat) (U:List Rou2 × Int × Int) (e:Ending) (w':World):Prop:=
 (U.2.2 ≠ 0∧e = .returned (.tuple #[.int .i64 0,.bool false])∧Below w.heap.size w w')∨
 (U.2.2 = 0∧e = .returned (.tuple #[.int .i64 U.2.1,.bool true])∧Mod (· = gR) w w'∧∃ F' pr' qss',(∀ k,F' k→F k∨w.heap.size≤k)∧(∀ lo,TyF w F lo→TyF w' F' lo)∧RdIn w' F' d gR fls (Rs.set c U.1) t qF cF pf cR pr' qss' qT cT vH)
theorem rput28_calls {w:World} {F:Nat→Prop} {d gR:Nat} {fls:List (List Ve)} {Rs:List (List Rou2)} {t:List Rq} {qF qT:Option Addr} {cF cR cT:Nat} {pf pr:List (Option Addr × Nat)} {qss:List (List (Option Addr × Nat))} {vH:Value}
  (h:RdIn w F d gR fls Rs t qF cF pf cR pr qss qT cT vH) {c r:Nat} (hc:c < fls.length) (hP:PlnOk (fls.getD c []) (Rs.getD c []) t) (hr:r < t.length) (hw:whereP (Rs.getD c []) (r:Int) < 0):
  Calls Tryz.prog 47 #[.pointer (some ⟨d,0,none⟩),.int .i64 (c:Int),.int .i64 (r:Int)] w (RpPost w F d gR fls Rs t qF cF pf cR qT cT vH c (pputP (fls.getD c []) (Rs.getD c []) t (r:Int))):=by
 have hrI:(0:Int)≤(r:Int)∧(r:Int) < t.length:=by omega
 have hle:=Lib.hid (fun wx (hm:Mod (fun _=>False) w wx)=>(by
  have h2:=h.mod hm (fun _ h=>h.elim) (fun h=>h) (fun h=>h)
  have:=least14_calls hP hr hw (pf.getD c (none,0)).1 (pr.getD c (none,0)).1 qT (pf.getD c (none,0)).2 (pr.getD c (none,0)).2 cT (qss.getD c []) wx (h2.flt c hc) (h2.rws c hc) h2.req
  rw [show (fls.getD c []).length = (Rs.getD c []).length from hP.len.symm] at this
  exact this:Calls Tryz.prog 70 #[.slice (pf.getD c (none,0)).1 (Rs.getD c []).length (pf.getD c (none,0)).2,.slice (pr.getD c (none,0)).1 (Rs.getD c []).length (pr.getD c (none,0)).2,.slice qT t.length cT,.int .i64 (r:Int)] wx (LePost wx (prcW (fls.getD c []) (Rs.getD c []) t r (Rs.getD c []).length))))
 obtain ⟨aV,rfl,hfc⟩:=h.fcell hc
 have hB0:=Lib.hid (fun wx (hm:Mod (fun _=>False) w wx)=>run_cF28 ((h.box.mod hm (fun h=>h)).cell (i:=0) rfl))
 have hB1:=Lib.hid (fun wx (hm:Mod (fun _=>False) w wx)=>run_cR28 ((h.box.mod hm (fun h=>h)).cell (i:=1) rfl))
 have hB2:=Lib.hid (fun wx (hm:Mod (fun _=>False) w wx)=>run_cT28 ((h.box.mod hm (fun h=>h)).cell (i:=2) rfl))
 have hFc:=Lib.hid (fun wx (hm:Mod (fun _=>False) w wx)=>(by
  have:=run_cV28 (hm.cell_of (fun h=>h) hfc)
  rw [show (fls.getD c []).length = (Rs.getD c []).length from hP.len.symm] at this
  exact this:(loadVar 60 (aV.add c)).run Tryz.prog wx = .ok (.slice (pf.getD c (none,0)).1 (Rs.getD c []).length (pf.getD c (none,0)).2) wx))
 have hRc:=Lib.hid (fun wx (hm:Mod (fun _=>False) w wx)=>run_cS28 (hm.cell_of (fun h=>h) (h.rcell hc)))
 have hU0:=Lib.hid (fun hp:prcW (fls.getD c []) (Rs.getD c []) t (r:Int) (Rs.getD c []).length = none=>put_W0 (fl:=fls.getD c []) hrI hw (by rw [← hP.len]; exact hp))
 have hU1:=Lib.hid (fun p (hp:prcW (fls.getD c []) (Rs.getD c []) t (r:Int) (Rs.getD c []).length = some p)=>put_W hP hrI hw (by rw [← hP.len]; exact hp))
 have hN:=hP.many
 rw [← hP.len] at hN
 obtain ⟨hN1,hN4⟩:=hN
 have H:=Lib.hid h
 have hc9:=hc
 obtain ⟨vW,hvW⟩:∃ vW,prcW (fls.getD c []) (Rs.getD c []) t (r:Int) (Rs.getD c []).length = vW:=⟨_,rfl⟩
 rw [hvW] at hle hU0 hU1
 have hno:=Lib.hid (fun (i:Nat) (s:Int × Int) (hs:s ∈ (Rs.getD c []).getD i [])=>where_getD hw hs)
 have hfm0:=hP.len
 generalize pputP (fls.getD c []) (Rs.getD c []) t (r:Int) = U at *
 obtain ⟨n,hn⟩:∃ n,fls.length = n:=⟨_,rfl⟩
 rw [hn] at hB0 hB1 hc9
 obtain ⟨m,hm⟩:∃ m,(Rs.getD c []).length = m:=⟨_,rfl⟩
 obtain ⟨T,hT⟩:∃ T,t.length = T:=⟨_,rfl⟩
 have hfm:=Lib.hid (hfm0.symm.trans hm)
 clear hfm0
 have hB1x:=hB1
 rw [hm] at hle hFc hRc hN1 hN4
 rw [hT] at hle hB2
 obtain ⟨qf,df,hpf⟩:∃ qf df,pf.getD c (none,0) = (qf,df):=⟨_,_,rfl⟩
 obtain ⟨qr,dr,hpr⟩:∃ qr dr,pr.getD c (none,0) = (qr,dr):=⟨_,_,rfl⟩
 rw [hpf] at hle hFc
 rw [hpr] at hle hRc
 dsimp only at hle hFc hRc
 clear h hP hw hfc hvW hrI hr
 replace hn:=Lib.hid hn
 replace hm:=Lib.hid hm
 replace hT:=Lib.hid hT
 replace hpf:=Lib.hid hpf
 replace hpr:=Lib.hid hpr
 obtain ⟨Y,hY⟩:∃ Y,w4O vW = Y:=⟨_,rfl⟩
 obtain ⟨bs,hbs⟩:∃ bs,vW.isSome = bs:=⟨_,rfl⟩
 have hY1:∀ v ∈ Y.toList,v.oneCell' = true:=by rw [← hY]; exact w4O_one _
 have hYs:(Tryz.prog.info? 150).map (·.size) = some Y.size:=by rw [← hY]; exact w4O_size _
 unfold LePost at hle
 rw [hY,hbs] at hle
 have hYz:(#[.int .i64 0,.int .i64 0,.int .i64 0,.int .i64 0]:Array Value).size = Y.size:=by rw [← hY]; cases vW <;> rfl
 replace hYz:=Lib.hid hYz
 replace hY1:=Lib.hid hY1
 replace hYs:=Lib.hid hYs
 replace hY:=Lib.hid hY
 replace hbs:=Lib.hid hbs
 go_enter Tryz.func47,Tryz.ntmps47
 go_upto_region 1 with fail
 refine wp_region_rove (X:=Nat) 0 (fun x=>[(14,.pointer (some ⟨d,0,none⟩)),(15,.pointer (some ⟨d,0,none⟩)),(16,.pointer (some ⟨d,0,none⟩)),(17,.slice (some aV) n cF),(18,.int .i64 (c:Int)),(19,.pointer (some (aV.add c))),(20,.slice qf m df),(21,.pointer (some ⟨d,0,none⟩)),(22,.pointer (some ⟨d,0,none⟩)),(23,.pointer (some ⟨d,1,none⟩)),(24,.slice (some ⟨gR,0,none⟩) n cR),(25,.int .i64 (c:Int)),(26,.pointer (some ((⟨gR,0,none⟩:Addr).add c))),(27,.slice qr m dr),(28,.pointer (some ⟨d,0,none⟩)),(29,.pointer (some ⟨d,0,none⟩)),(30,.pointer (some ⟨d,2,none⟩)),(31,.slice qT T cT),(32,.int .i64 (r:Int)),(33,.tuple #[.agg Y,.bool bs]),(13,.tuple #[.agg Y,.bool bs]),(34,.agg Y),(35,.bool bs),(8,.pointer (some ⟨x,0,none⟩)),(9,.bool bs)])
  (fun x d W'=>ClB #[.int .i64 0,.int .i64 0,.int .i64 0,.int .i64 0] Y 150 w x (d 23) (d 24) W') (by kernel_rfl) (by kernel_rfl) (by kernel_rfl) (by kernel_rfl) (fun x=>by kernel_rfl)
  ⟨(Mod.refl _ _).drew,(fun h=>by cases h)⟩ ?_ ?_
 ·intro aF hAF
  have E0:∀ x,(aF x).eval (.tmp 0) = .pointer (some ⟨d,0,none⟩):=by intro x; rw [hAF]; kernel_rfl
  have E1:∀ x,(aF x).eval (.tmp 1) = .int .i64 (c:Int):=by intro x; rw [hAF]; kernel_rfl
  have E2:∀ x,(aF x).eval (.tmp 2) = .int .i64 (r:Int):=by intro x; rw [hAF]; kernel_rfl
  have T14:∀ x,(aF x).tmps[14]? = some (.pointer (some ⟨d,0,none⟩)):=by intro x; rw [hAF]; kernel_rfl
  have T15:∀ x,(aF x).tmps[15]? = some (.pointer (some ⟨d,0,none⟩)):=by intro x; rw [hAF]; kernel_rfl
  have T16:∀ x,(aF x).tmps[16]? = some (.pointer (some ⟨d,0,none⟩)):=by intro x; rw [hAF]; kernel_rfl
  have T17:∀ x,(aF x).tmps[17]? = some (.slice (some aV) n cF):=by intro x; rw [hAF]; kernel_rfl
  have T18:∀ x,(aF x).tmps[18]? = some (.int .i64 (c:Int)):=by intro x; rw [hAF]; kernel_rfl
  have T19:∀ x,(aF x).tmps[19]? = some (.pointer (some (aV.add c))):=by intro x; rw [hAF]; kernel_rfl
  have T20:∀ x,(aF x).tmps[20]? = some (.slice qf m df):=by intro x; rw [hAF]; kernel_rfl
  have T21:∀ x,(aF x).tmps[21]? = some (.pointer (some ⟨d,0,none⟩)):=by intro x; rw [hAF]; kernel_rfl
  have T22:∀ x,(aF x).tmps[22]? = some (.pointer (some ⟨d,0,none⟩)):=by intro x; rw [hAF]; kernel_rfl
  have T23:∀ x,(aF x).tmps[23]? = some (.pointer (some ⟨d,1,none⟩)):=by intro x; rw [hAF]; kernel_rfl
  have T24:∀ x,(aF x).tmps[24]? = some (.slice (some ⟨gR,0,none⟩) n cR):=by intro x; rw [hAF]; kernel_rfl
  have T25:∀ x,(aF x).tmps[25]? = some (.int .i64 (c:Int)):=by intro x; rw [hAF]; kernel_rfl
  have T26:∀ x,(aF x).tmps[26]? = some (.pointer (some ((⟨gR,0,none⟩:Addr).add c))):=by intro x; rw [hAF]; kernel_rfl
  have T27:∀ x,(aF x).tmps[27]? = some (.slice qr m dr):=by intro x; rw [hAF]; kernel_rfl
  have T28:∀ x,(aF x).tmps[28]? = some (.pointer (some ⟨d,0,none⟩)):=by intro x; rw [hAF]; kernel_rfl
  have T29:∀ x,(aF x).tmps[29]? = some (.pointer (some ⟨d,0,none⟩)):=by intro x; rw [hAF]; kernel_rfl
  have T30:∀ x,(aF x).tmps[30]? = some (.pointer (some ⟨d,2,none⟩)):=by intro x; rw [hAF]; kernel_rfl
  have T31:∀ x,(aF x).tmps[31]? = some (.slice qT T cT):=by intro x; rw [hAF]; kernel_rfl
  have T32:∀ x,(aF x).tmps[32]? = some (.int .i64 (r:Int)):=by intro x; rw [hAF]; kernel_rfl
  have T33:∀ x,(aF x).tmps[33]? = some (.tuple #[.agg Y,.bool bs]):=by intro x; rw [hAF]; kernel_rfl
  have T13:∀ x,(aF x).tmps[13]? = some (.tuple #[.agg Y,.bool bs]):=by intro x; rw [hAF]; kernel_rfl
  have T34:∀ x,(aF x).tmps[34]? = some (.agg Y):=by intro x; rw [hAF]; kernel_rfl
  have T35:∀ x,(aF x).tmps[35]? = some (.bool bs):=by intro x; rw [hAF]; kernel_rfl
  have T8:∀ x,(aF x).tmps[8]? = some (.pointer (some ⟨x,0,none⟩)):=by intro x; rw [hAF]; kernel_rfl
  have T9:∀ x,(aF x).tmps[9]? = some (.bool bs):=by intro x; rw [hAF]; kernel_rfl
  replace hAF:=Lib.hid hAF
  refine ⟨?_,?_,?_,?_,?_,?_,?_,?_,?_,?_,?_,?_,?_,?_,?_,?_,?_,?_,?_,?_,?_,?_,?_,?_,?_,?_,trivial⟩
  ·exact oq T14 rfl rfl fun x d w' hd hc=>sv (run_mov rfl (E0 x)) hc
  ·exact oq T15 rfl rfl fun x d w' hd hc=>sv (run_nilP rfl (ev T14 x)) hc
  ·exact oq T16 rfl rfl fun x d w' hd hc=>sv (run_fldT rfl (ev T15 x) (fun _=>by kernel_rfl)) hc
  ·exact oq T17 rfl rfl fun x d w' hd hc=>sv (run_load1 rfl (ev T16 x) (hB0.out _ hc.m)) hc
  ·exact oq T18 rfl rfl fun x d w' hd hc=>sv (run_mov rfl (E1 x)) hc
  ·exact oq T19 rfl rfl fun x d w' hd hc=>sv (run_ixF28 rfl (ev T17 x) (ev T18 x) hc9) hc
  ·exact oq T20 rfl rfl fun x d w' hd hc=>sv (run_load1 rfl (ev T19 x) (hFc.out _ hc.m)) hc
  ·exact oq T21 rfl rfl fun x d w' hd hc=>sv (run_mov rfl (E0 x)) hc
  ·exact oq T22 rfl rfl fun x d w' hd hc=>sv (run_nilP rfl (ev T21 x)) hc
  ·exact oq T23 rfl rfl fun x d w' hd hc=>sv (run_fldT rfl (ev T22 x) (fun _=>by kernel_rfl)) hc
  ·exact oq T24 rfl rfl fun x d w' hd hc=>sv (run_load1 rfl (ev T23 x) (hB1.out _ hc.m)) hc
  ·exact oq T25 rfl rfl fun x d w' hd hc=>sv (run_mov rfl (E1 x)) hc
  ·exact oq T26 rfl rfl fun x d w' hd hc=>sv (run_ixR28 rfl (ev T24 x) (ev T25 x) hc9) hc
  ·exact oq T27 rfl rfl fun x d w' hd hc=>sv (run_load1 rfl (ev T26 x) (hRc.out _ hc.m)) hc
  ·exact oq T28 rfl rfl fun x d w' hd hc=>sv (run_mov rfl (E0 x)) hc
  ·exact oq T29 rfl rfl fun x d w' hd hc=>sv (run_nilP rfl (ev T28 x)) hc
  ·exact oq T30 rfl rfl fun x d w' hd hc=>sv (run_fldT rfl (ev T29 x) (fun _=>by kernel_rfl)) hc
  ·exact oq T31 rfl rfl fun x d w' hd hc=>sv (run_load1 rfl (ev T30 x) (hB2.out _ hc.m)) hc
  ·exact oq T32 rfl rfl fun x d w' hd hc=>sv (run_mov rfl (E2 x)) hc
  ·exact oq T33 rfl rfl fun x d w' hd hc=>sc (run_call28 rfl (ev T20 x) (ev T27 x) (ev T31 x) (ev T32 x) (by kernel_rfl)) ((hle.out w' hc.m).mono fun e w'' h=>⟨h.1,hc.mod ((Mod.refl _ _).after h.2)⟩)
  ·exact oq T13 rfl rfl fun x d w' hd hc=>sv (run_mov rfl (ev T33 x)) hc
  ·exact oq T34 rfl rfl fun x d w' hd hc=>sv (run_ext rfl (ev T13 x) rfl) hc
  ·exact oq T35 rfl rfl fun x d w' hd hc=>sv (run_ext rfl (ev T13 x) rfl) hc
  ·exact opOk3_loud rfl fun x d w' hd hn hc=>by
     have n4:d 24 = false:=hn 24 (by kernel_rfl)
     rw [n4] at hc
     refine sk_v (run_alloc28 rfl) ?_
     refine ⟨w'.heap.size,(by rw [hAF.out]; exact agree_set 23 (8,.pointer (some ⟨x,0,none⟩)) rfl (by kernel_rfl)),(by intro t hd _; cases hd; exact T8 _),?_⟩
     show ClB _ _ _ w _ true (d 24) _
     rw [n4]
     exact hc.box
  ·exact opOk3_loud rfl fun x d w' hd hn hc=>by
     have n2:d 23 = true:=hd 23 (by kernel_rfl)
     rw [n2] at hc
     refine sk_s (run_storeP (ty:=150) rfl (ev T8 x) (ev T34 x) (run_storeVar_row w' x 150 _ Y 150 (hc.x0 rfl).1 (by cases d 24 <;> first | rfl | exact hYz.out) hY1.out (by rw [hYs.out]))) ⟨x,agree_same _ _,(by intro t hd _; cases hd),?_⟩
     show ClB _ _ _ w _ (d 23) true _
     rw [n2]
     exact hc.put
  ·exact oq T9 rfl rfl fun x d w' hd hc=>sv (run_asg rfl (ev T35 x)) hc
 ·intro xb dn w' hd hc
  simp only [putAll,List.foldl_cons,List.foldl_nil,Act.put,List.setIfInBounds_toArray,List.set_cons_succ,List.set_cons_zero]
  rw [hd 23 (by decide),hd 24 (by decide)] at hc
  obtain ⟨hX,hxw⟩:=hc.x0 rfl
  have hX:Blk w' xb Y 150:=hX
  have hm0:=hc.m
  clear hc hd hle hB0 hB2 hFc hY1 hYs hYz
  generalize w' = w1 at *
  cases vW with
  | none=>
   obtain rfl:false = bs:=hbs.out
   obtain rfl:=hU0.out rfl
   have hb:=Lib.hid (hm0.below (Nat.le_refl _) (fun _ h=>h.elim))
   clear hU0 hU1 hm0 hX
   go_wp2_with fail
   go_ret2
   exact Or.inl ⟨by show (12:Int) ≠ 0; decide,rfl,hb.out⟩
  | some p=>
   obtain rfl:true = bs:=hbs.out
   obtain ⟨a,b,e1,e2,hab,hbl,hl14,hpl,hUe⟩:=hU1.out p rfl
   obtain ⟨kk,i',j',rise⟩:=p
   dsimp only at e1 e2 hab hbl hl14 hpl hUe
   subst e1 e2 hUe
   obtain rfl:#[.int .i64 (kk:Int),.int .i64 (a:Int),.int .i64 (b:Int),.int .i64 rise] = Y:=hY.out
   have hws:=withP_some hab hbl (by omega:(0:Int)≤(r:Int)) (hno.out kk) hl14
   have hkm:kk < m:=by rw [← hfm.out]; exact hpl
   obtain ⟨aR,haR⟩:=((H.out.rws c hc).rws).some_of (k:=0) (by rw [rsV_size,hm.out]; omega)
   rw [hpr.out] at haR
   dsimp only at haR
   subst haR
   have hrw0:=Lib.hid (fun i (hi:i < m) wx (hx:Mod (fun _=>False) w wx)=>(by
    have h1:=(H.out.rws c hc).rws
    rw [hpr.out] at h1
    exact run_row14 (rs_cell h1 hx (k:=i) (by rw [hm.out]; exact hi)):(loadVar 82 (aR.add i)).run Tryz.prog wx = .ok (.slice ((qss.getD c []).getD i (none,0)).1 ((Rs.getD c []).getD i []).length ((qss.getD c []).getD i (none,0)).2) wx))
   have hold:=Lib.hid (fun i (hi:i < m) wx (hx:Mod (fun _=>False) w wx)=>(⟨((H.out.mod hx (fun _ h=>h.elim) (fun h=>h) (fun h=>h)).rws c hc).row i (by rw [hm.out]; exact hi),(H.out.rws c hc).cap i (by rw [hm.out]; exact hi),fun a ha h0=>.inl (H.out.fs c hc i a ha h0)⟩:RowF wx F w.heap.size ((qss.getD c []).getD i (none,0)) ((Rs.getD c []).getD i [])))
   have hwi:=Lib.hid (fun wx (hx:Mod (fun _=>False) w wx)=>(by
    have:=rwith_newB ((qss.getD c []).getD kk (none,0)).1 ((qss.getD c []).getD kk (none,0)).2 ((Rs.getD c []).getD kk []) (r:Int) (a:Int) (b:Int) wx (hold.out kk hkm wx hx).1
    rw [hws] at this
    exact this:Calls Tryz.prog 71 #[.slice ((qss.getD c []).getD kk (none,0)).1 ((Rs.getD c []).getD kk []).length ((qss.getD c []).getD kk (none,0)).2,.int .i64 (r:Int),.int .i64 (a:Int),.int .i64 (b:Int)] wx (WiPostB wx (some (withL ((Rs.getD c []).getD kk []) (r:Int) a b)))))
   obtain ⟨rows,hrows⟩:∃ rows,Rs.getD c [] = rows:=⟨_,rfl⟩
   rw [hrows] at hrw0 hold hwi hm
   have hMl:(withL (rows.getD kk []) (r:Int) a b).length≤16:=by rw [withL_len _ _ hab (by rw [← hrows]; exact hbl),← hrows]; omega
   rw [hrows]
   generalize hM:withL (rows.getD kk []) (r:Int) a b = M at *
   obtain ⟨N,hN⟩:∃ N,rows.set kk M = N:=⟨_,rfl⟩
   rw [hN]
   have hNl:N.length = m:=by rw [← hN,List.length_set]; exact hm.out
   have hNk:∀ i,N.getD i [] = if kk = i then M else rows.getD i []:=fun i=>by rw [← hN]; exact getD_set28 _ _ _ (by rw [hm.out]; exact hkm)
   obtain ⟨qs0,hqs0⟩:∃ qs0,qss.getD c [] = qs0:=⟨_,rfl⟩
   rw [hqs0] at hrw0 hold hwi
   obtain ⟨B1,hB1⟩:∃ B1,w1.heap.size = B1:=⟨_,rfl⟩
   have hxB:xb < B1:=by rw [← hB1]; exact hX.lt
   have hwB:w.heap.size≤B1:=by rw [← hB1]; exact hm0.size
   have hFB:=Lib.hid (fun k (hk:F k)=>(by have:=H.out.lt.1 k hk; omega:k < B1))
   have hB1':=hB1
   replace hB1:=Lib.hid hwB
   have hm4:m≤4:=hN4
   replace hNl:=Lib.hid hNl
   replace hNk:=Lib.hid hNk
   replace hN:=Lib.hid hN
   replace hM:=Lib.hid hM
   replace hrows:=Lib.hid hrows
   replace hqs0:=Lib.hid hqs0
   have hmB0:Mod (fun k=>B1≤k) w1 w1:=Mod.refl _ _
   have hB1s:=Lib.hid hB1'
   clear hU0 hU1 hws hbl hl14 hB1'
   go_wp2_with fail
   go_loopw [10,11] (fun s10 s11 wx=>∃ (v:Nat) (qs:List (Option Addr × Nat)),v≤m∧s11 = .int .i64 v∧qs.length = v∧wx.ownsRow B1 82 1 s10 v (rsV N qs v).flatten∧RpI F w.heap.size N qs v wx∧Blk wx xb #[.int .i64 (kk:Int),.int .i64 (a:Int),.int .i64 (b:Int),.int .i64 rise] 150∧Mod (fun _=>False) w wx∧Mod (fun k=>B1≤k) w1 wx) (fun _ s11 _=>m - (intOf s11).toNat)
   case atStart=>exact ⟨0,[],Nat.zero_le _,rfl,rfl,World.ownsRow_nil _ _ _ _,(fun i (hi:i < 0)=>by omega),hX,hm0,hmB0⟩
   case round=>
    clear hX hm0 hmB0
    obtain ⟨v,qs,hv,rfl,hql,hO,hI,hX,hmw,hmB⟩:=hrel
    obtain ⟨q9,m9,d9,rfl⟩:=own_isS hO
    have hB1w:=Lib.hid (hB1.out)
    replace hB1w:=Lib.hid (hB1x.out _ hmw)
    have hRcw:=Lib.hid (hRc.out _ hmw)
    by_cases hlt:v < m
    ·have hltI:(v:Int) < (m:Int):=by omega
     have hv0:(0:Int)≤(v:Int):=by omega
     have s1:IntKind.i64.wrap ((v:Int) + 1) = (v:Int) + 1:=IntWalk.i64_in _ (by omega)
     have hrw:=Lib.hid (hrw0.out v hlt _ hmw)
     have k0:=hX.cell (i:=0) (v:=.int .i64 (kk:Int)) rfl
     have k1:=hX.cell (i:=1) (v:=.int .i64 (a:Int)) rfl
     have k2:=hX.cell (i:=2) (v:=.int .i64 (b:Int)) rfl
     by_cases hvk:v = kk
     ·have hvk1:((v:Int) == (kk:Int)) = true:=by rw [hvk]; exact beq_self_eq_true _
      have hwc:=hwi.out _ hmw
      have hrw2:=hrw.out
      rw [hvk] at hrw2
      obtain ⟨lk,hlk⟩:∃ lk,(rows.getD kk []).length = lk:=⟨_,rfl⟩
      obtain ⟨qk,dk,hqk⟩:∃ qk dk,qs0.getD kk (none,0) = (qk,dk):=⟨_,_,rfl⟩
      rw [hlk,hqk] at hwc hrw2
      dsimp only at hwc hrw2
      rw [← hvk] at hrw2
      replace hrw:=Lib.hid hrw2
      clear hrw2 hlk hqk
      replace hO:=Lib.hid hO
      replace hI:=Lib.hid hI
      replace hX:=Lib.hid hX
      replace hmw:=Lib.hid hmw
      replace hmB:=Lib.hid hmB
      replace hql:=Lib.hid hql
      replace hvk:=Lib.hid hvk
      unfold WiPostB at hwc
      dsimp only [Option.getD_some,Option.isSome_some] at hwc
      go_upto_region 10 with (first | (refine wpList_load_v rfl 37 _ rfl ⟨d,1,none⟩ rfl _ hB1w.out ?_) | (refine wpList_v rfl (.pointer (some ((⟨gR,0,none⟩:Addr).add c))) (run_ixR28 (k:=c) rfl rfl rfl hc9) ?_) | (refine wpList_load_v rfl 106 _ rfl ((⟨gR,0,none⟩:Addr).add c) rfl _ hRcw.out ?_) | (refine wpList_v rfl (.pointer (some (aR.add v))) (run_ixRs (k:=v) rfl rfl rfl hlt) ?_) | (refine wpList_load_v rfl 82 _ rfl (aR.add v) rfl _ hrw.out ?_))
      clear hB1w hRcw hrw
      go_wp2_with fail
      clear k0 k1 k2
      refine hwc.mono ?_
      clear hwc
      rintro e w4 ⟨⟨q4,d4,rfl,hd4,hE4,hN4⟩,hb4⟩
      have hnew:Hid (RowF w4 F w.heap.size (q4,d4) M):=Lib.hid ⟨hE4,hd4,fun x hx h0=>.inr ⟨Nat.le_trans hmw.out.size (hN4 x hx).1,(hN4 x hx).2⟩⟩
      have hnl:(N.getD v []).length = M.length:=by rw [hNk.out,if_pos hvk.out.symm]
      have hnN:N.getD v [] = M:=by rw [hNk.out,if_pos hvk.out.symm]
      rw [← hnN] at hnew
      replace hO:=Lib.hid (own_below hO.out hb4)
      replace hI:=Lib.hid (show RpI F w.heap.size N qs v w4 from fun i hi=>RowF.mod (hI.out i hi) ((Mod.refl (fun _=>False) _).after hb4) (fun _ _ h=>h) (fun _ _ _ _ h=>h))
      replace hX:=Lib.hid (hX.out.mod ((Mod.refl (fun _=>False) _).after hb4) (fun h=>h))
      replace hmw:=Lib.hid (hmw.out.after hb4)
      replace hmB:=Lib.hid (hmB.out.trans (((Mod.refl (fun _=>False) _).after hb4).mono (fun _ _ h=>h.elim)))
      obtain ⟨lM,hlM⟩:∃ lM,M.length = lM:=⟨_,rfl⟩
      rw [hlM] at hnl ⊢
      replace hlM:=Lib.hid hlM
      clear hb4 hE4 hd4 hN4 hnN
      have hOA:=Lib.hid (own_mod hO.out ((Mod.refl (fun _=>False) w4).alloc (.cells #[.slice q4 lM d4] 82)) (fun _ _ h=>h))
      have hmA:=Lib.hid (hmw.out.alloc (.cells #[.slice q4 lM d4] 82))
      have hzA:=Lib.hid (show B1≤(w4.alloc (.cells #[.slice q4 lM d4] 82)).heap.size from by have:=hmB.out.size; have:=hB1s.out; simp; omega)
      have hmBA:=Lib.hid (hmB.out.alloc (.cells #[.slice q4 lM d4] 82))
      have hXA:=Lib.hid (hX.out.alloc (.cells #[.slice q4 lM d4] 82))
      have hI2:∀ i,i < v + 1→RowF (w4.alloc (.cells #[.slice q4 lM d4] 82)) F w.heap.size ((qs ++ [(q4,d4)]).getD i (none,0)) (N.getD i []):=fun i hi=>by
       by_cases hik:i < v
       ·have e:(qs ++ [(q4,d4)]).getD i (none,0) = qs.getD i (none,0):=by
         rw [List.getD_eq_getElem?_getD,List.getD_eq_getElem?_getD,List.getElem?_append_left (by rw [hql.out]; omega)]
        rw [e]
        exact RowF.mod (hI.out i hik) ((Mod.refl (fun _=>False) w4).alloc _) (fun _ _ h=>h) (fun _ _ _ _ h=>h)
       ·obtain rfl:i = v:=by omega
        have e:(qs ++ [(q4,d4)]).getD i (none,0) = (q4,d4):=by
         rw [List.getD_eq_getElem?_getD,List.getElem?_append_right (by rw [hql.out]; omega),hql.out,Nat.sub_self]
         rfl
        rw [e]
        exact RowF.mod hnew.out ((Mod.refl (fun _=>False) w4).alloc _) (fun _ _ h=>h) (fun _ _ _ _ h=>h)
      have hsk:=Lib.hid (rsV_succ N qs hql.out q4 d4)
      have hnl2:=Lib.hid hnl
      replace hI2:=Lib.hid hI2
      clear hO hI hX hmw hmB hnew hnl
      go_wp2_with (first | (refine wpList_bs1 rfl 106 1 0 _ rfl (.slice q4 lM d4) rfl _ _ (rsl_rs _ _ _ _) ?_) |
       (refine wpList_appG rs_el rfl _ _ rfl B1 hzA.out _ v _ rfl hOA.out (by omega) ⟨w4.heap.size,0,none⟩ 1 1 [.slice q4 lM d4] rfl rfl (by omega) (row_cells (Blk.new w4 _ _)) (by simp [Value.oneCell']) ?_; intro v7 w7 hO7 hg7))
      have hm7:=Lib.hid ((hmA.out.mono (T:=fun k=>B1≤k) (fun _ _ h=>h.elim)).grown hg7 (fun k hk _=>by have:=hOA.out.lt k hk; omega))
      have hm7':Mod (fun _=>False) w w7:=⟨hm7.out.os,hm7.out.tape,hm7.out.output,hm7.out.size,fun k hk hs=>hm7.out.block k hk (by have:=hB1.out; omega)⟩
      have hmB7:Mod (fun k=>B1≤k) w1 w7:=(hmBA.out).grown hg7 (fun k hk _=>by have:=hOA.out.lt k hk; omega)
      have hX7:=grown_blk hXA.out hOA.out hxB hg7
      have hI7:RpI F w.heap.size N (qs ++ [(q4,d4)]) (v + 1) w7:=fun i hi=>
       RowF.mod (hI2.out i hi) ((Mod.refl (fun g'=>(Value.slice q9 m9 d9).ownBlock = some g') _).grown hg7 (fun _ h _=>h)) (fun k hk e=>by have:=hOA.out.lt k e; have:=hFB.out k hk; omega) (fun g C _ hB e=>own_ne hOA.out e hB (by decide) rfl)
      have hO8:w7.ownsRow B1 82 1 v7 (v + 1) (rsV N (qs ++ [(q4,d4)]) (v + 1)).flatten:=by
       rw [hsk.out,List.flatten_append,hnl2.out]
       simpa using hO7
      replace hI7:=Lib.hid hI7
      replace hO8:=Lib.hid hO8
      replace hX7:=Lib.hid hX7
      replace hm7':=Lib.hid hm7'
      replace hmB7:=Lib.hid hmB7
      clear hO7 hg7 hOA hzA hmA hI2 hXA hm7 hmBA
      go_roundw
      case rel=>exact ⟨v + 1,by omega,by simp,qs ++ [(q4,d4)],by rw [List.length_append,hql.out]; rfl,hO8.out,hI7.out,hX7.out,hm7'.out,hmB7.out⟩
      case measure=>simp [intOf]; omega
     ·have hvk1:((v:Int) == (kk:Int)) = false:=beq_eq_false_iff_ne.2 (by omega)
      have hnew0:=hold.out v hlt _ hmw
      have hnN:N.getD v [] = rows.getD v []:=by rw [hNk.out,if_neg (fun e=>hvk e.symm)]
      rw [← hnN] at hnew0 hrw
      obtain ⟨lk,hlk⟩:∃ lk,(N.getD v []).length = lk:=⟨_,rfl⟩
      obtain ⟨qk,dk,hqk⟩:∃ qk dk,qs0.getD v (none,0) = (qk,dk):=⟨_,_,rfl⟩
      rw [hqk] at hnew0
      have hrw2:=hrw.out
      rw [hqk,hlk] at hrw2
      dsimp only at hrw2
      replace hrw:=Lib.hid hrw2
      have hnew:=Lib.hid hnew0
      have hnl:=hlk
      replace hnl:=Lib.hid hnl
      clear hrw2 hqk hlk hnN hnew0
      replace hO:=Lib.hid hO
      replace hI:=Lib.hid hI
      replace hX:=Lib.hid hX
      replace hmw:=Lib.hid hmw
      replace hmB:=Lib.hid hmB
      replace hql:=Lib.hid hql
      go_upto_region 11 with (first | (refine wpList_load_v rfl 37 _ rfl ⟨d,1,none⟩ rfl _ hB1w.out ?_) | (refine wpList_v rfl (.pointer (some ((⟨gR,0,none⟩:Addr).add c))) (run_ixR28 (k:=c) rfl rfl rfl hc9) ?_) | (refine wpList_load_v rfl 106 _ rfl ((⟨gR,0,none⟩:Addr).add c) rfl _ hRcw.out ?_) | (refine wpList_v rfl (.pointer (some (aR.add v))) (run_ixRs (k:=v) rfl rfl rfl hlt) ?_) | (refine wpList_load_v rfl 82 _ rfl (aR.add v) rfl _ hrw.out ?_))
      clear hB1w hRcw hrw k0 k1 k2
      replace hnl:=hnl.out
      have hOA:=Lib.hid (own_mod hO.out ((Mod.refl (fun _=>False) wr).alloc (.cells #[.slice qk lk dk] 82)) (fun _ _ h=>h))
      have hmA:=Lib.hid (hmw.out.alloc (.cells #[.slice qk lk dk] 82))
      have hzA:=Lib.hid (show B1≤(wr.alloc (.cells #[.slice qk lk dk] 82)).heap.size from by have:=hmB.out.size; have:=hB1s.out; simp; omega)
      have hmBA:=Lib.hid (hmB.out.alloc (.cells #[.slice qk lk dk] 82))
      have hXA:=Lib.hid (hX.out.alloc (.cells #[.slice qk lk dk] 82))
      have hI2:∀ i,i < v + 1→RowF (wr.alloc (.cells #[.slice qk lk dk] 82)) F w.heap.size ((qs ++ [(qk,dk)]).getD i (none,0)) (N.getD i []):=fun i hi=>by
       by_cases hik:i < v
       ·have e:(qs ++ [(qk,dk)]).getD i (none,0) = qs.getD i (none,0):=by
         rw [List.getD_eq_getElem?_getD,List.getD_eq_getElem?_getD,List.getElem?_append_left (by rw [hql.out]; omega)]
        rw [e]
        exact RowF.mod (hI.out i hik) ((Mod.refl (fun _=>False) wr).alloc _) (fun _ _ h=>h) (fun _ _ _ _ h=>h)
       ·obtain rfl:i = v:=by omega
        have e:(qs ++ [(qk,dk)]).getD i (none,0) = (qk,dk):=by
         rw [List.getD_eq_getElem?_getD,List.getElem?_append_right (by rw [hql.out]; omega),hql.out,Nat.sub_self]
         rfl
        rw [e]
        exact RowF.mod hnew.out ((Mod.refl (fun _=>False) wr).alloc _) (fun _ _ h=>h) (fun _ _ _ _ h=>h)
      have hsk:=Lib.hid (rsV_succ N qs hql.out qk dk)
      have hnl2:=Lib.hid hnl
      replace hI2:=Lib.hid hI2
      clear hO hI hX hmw hmB hnew hnl
      go_wp2_with (first | (refine wpList_bs1 rfl 106 1 0 _ rfl (.slice qk lk dk) rfl _ _ (rsl_rs _ _ _ _) ?_) |
       (refine wpList_appG rs_el rfl _ _ rfl B1 hzA.out _ v _ rfl hOA.out (by omega) ⟨wr.heap.size,0,none⟩ 1 1 [.slice qk lk dk] rfl rfl (by omega) (row_cells (Blk.new wr _ _)) (by simp [Value.oneCell']) ?_; intro v7 w7 hO7 hg7))
      have hm7:=Lib.hid ((hmA.out.mono (T:=fun k=>B1≤k) (fun _ _ h=>h.elim)).grown hg7 (fun k hk _=>by have:=hOA.out.lt k hk; omega))
      have hm7':Mod (fun _=>False) w w7:=⟨hm7.out.os,hm7.out.tape,hm7.out.output,hm7.out.size,fun k hk hs=>hm7.out.block k hk (by have:=hB1.out; omega)⟩
      have hmB7:Mod (fun k=>B1≤k) w1 w7:=(hmBA.out).grown hg7 (fun k hk _=>by have:=hOA.out.lt k hk; omega)
      have hX7:=grown_blk hXA.out hOA.out hxB hg7
      have hI7:RpI F w.heap.size N (qs ++ [(qk,dk)]) (v + 1) w7:=fun i hi=>
       RowF.mod (hI2.out i hi) ((Mod.refl (fun g'=>(Value.slice q9 m9 d9).ownBlock = some g') _).grown hg7 (fun _ h _=>h)) (fun k hk e=>by have:=hOA.out.lt k e; have:=hFB.out k hk; omega) (fun g C _ hB e=>own_ne hOA.out e hB (by decide) rfl)
      have hO8:w7.ownsRow B1 82 1 v7 (v + 1) (rsV N (qs ++ [(qk,dk)]) (v + 1)).flatten:=by
       rw [hsk.out,List.flatten_append,hnl2.out]
       simpa using hO7
      replace hI7:=Lib.hid hI7
      replace hO8:=Lib.hid hO8
      replace hX7:=Lib.hid hX7
      replace hm7':=Lib.hid hm7'
      replace hmB7:=Lib.hid hmB7
      clear hO7 hg7 hOA hzA hmA hI2 hXA hm7 hmBA
      go_roundw
      case rel=>exact ⟨v + 1,by omega,by simp,qs ++ [(qk,dk)],by rw [List.length_append,hql.out]; rfl,hO8.out,hI7.out,hX7.out,hm7'.out,hmB7.out⟩
      case measure=>simp [intOf]; omega
    ·obtain rfl:v = m:=by omega
     obtain rfl:v = m9:=by have:=own_lenC hO; omega
     have hEl:=own_els (R:=rsV N qs v) (rsV_len _ _ _) (by rw [rsV_size]; exact hO) (by rw [rsV_size]; omega)
     rw [rsV_size] at hEl
     obtain ⟨h1,-,h3,h4⟩:=hEl
     have hgx:xb ≠ gR:=by have:=H.out.lt.2; omega
     obtain ⟨hmP,F',hF',hTy,hRd⟩:=H.out.put hc hmw (N:=N) (qs:=qs) (q:=q9) (dN:=d9) (by rw [hNl.out]; exact h1) (fun a ha=>⟨by have:=(h4 a ha).1; omega,own_blkB hO ha⟩) (fun i hi=>hI i (by rw [← hNl.out]; exact hi)) (by rw [hql,hNl.out])
     rw [hNl.out,addr0_28] at hmP hRd hTy
     have hck:wr.cell? ⟨gR,c,none⟩ = some (.slice (pr.getD c (none,0)).1 (Rs.getD c []).length (pr.getD c (none,0)).2):=by
      have:=(H.out.mod hmw (fun _ h=>h.elim) (fun h=>h) (fun h=>h)).rcell hc
      rwa [addr0_28] at this
     have hfz:wr.frozen? ⟨gR,c,none⟩ = false:=by
      obtain ⟨C,hC⟩:=(H.out.mod hmw (fun _ h=>h.elim) (fun h=>h) (fun h=>h)).tb
      exact hC.froz c
     have k3:(wr.setCell ⟨gR,c,none⟩ (.slice q9 v d9)).cell? ⟨xb,3,none⟩ = some (.int .i64 rise):=(hX.other hgx _).cell (i:=3) rfl
     replace hmP:=Lib.hid hmP
     replace hRd:=Lib.hid hRd
     replace k3:=Lib.hid k3
     replace hF':=Lib.hid hF'
     replace hTy:=Lib.hid hTy
     clear hX hmw hmB hO hI h1 h3 h4 hql
     go_upto_region 13 with (first | (refine wpList_load_v rfl 37 _ rfl ⟨d,1,none⟩ rfl _ hB1w.out ?_) | (refine wpList_v rfl (.pointer (some ((⟨gR,0,none⟩:Addr).add c))) (run_ixR28 (k:=c) rfl rfl rfl hc9) ?_) | (refine wpList_load_v rfl 106 _ rfl ((⟨gR,0,none⟩:Addr).add c) rfl _ hRcw.out ?_))
     clear hck hfz
     refine wp_world' (fun wx=>Mod (· = gR) w wx∧(∀ lo,TyF w F lo→TyF wx F' lo)∧RdIn wx F' d gR fls (Rs.set c N) t (some aV) cF pf cR (pr.set c (q9,d9)) (qss.set c qs) qT cT vH∧wx.cell? ⟨xb,3,none⟩ = some (.int .i64 rise)) ⟨hmP.out,hTy.out,hRd.out,k3.out⟩ ?_
     clear hmP hRd k3 hTy
     rintro w5 ⟨hmP,hTy,hRd,k3⟩
     replace hTy:=Lib.hid hTy
     replace hmP:=Lib.hid hmP
     replace hRd:=Lib.hid hRd
     go_wp2_with fail
     go_ret2
     exact Or.inr ⟨rfl,rfl,hmP.out,_,_,_,hF'.out,hTy.out,by have:=hRd.out; rw [← hN.out,← hM.out,← hrows.out] at this; exact this⟩
end
end Go.Proofs.YtkaoflndbcfodaaGreat
