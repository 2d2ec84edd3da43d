/-
  The row 'DealNew': a pack of the texts CaP Dp Rg Wt PnP, pruned to what the row uses.
-/
import Derived.Test.YtkaoflndbcfodaaGreatDealNewQ14
import Derived.Lib.SliceRun
namespace Go.Proofs.YtkaoflndbcfodaaGreat
set_option maxHeartbeats 8000000
set_option maxRecDepth 100000
section
open Go.RowKit
theorem prsI_leC (N i:Nat) (h:i≤N):(prsI N i).length≤i * N:=by
 induction i with
 | zero=>simp [prsI]
 | succ i ih=>
  rw [prsI_succ,List.length_append,rowP_len,Nat.succ_mul]
  have:=ih (by omega)
  omega
theorem prs_leC (n:Int):(prs n).length≤306:=by
 unfold prs
 by_cases h:16 < n
 ·rw [if_pos h]; simp
 ·rw [if_neg h]
  have h1:=prsI_leC (n + 1).toNat (n + 1).toNat (Nat.le_refl _)
  have h2:(n + 1).toNat * (n + 1).toNat≤17 * 17:=Nat.mul_le_mul (by omega) (by omega)
  omega
abbrev Wy:=Int × Int × Int
def wyOf (x y cp st en:Int) (l:List (Int × Int)) (t:List Rq) (req:Int) (p:Int × Int):List Wy:=
 if (riseP x y cp st en l t req p.1 p.2).2 = 0 then [(p.1,p.2,(riseP x y cp st en l t req p.1 p.2).1)] else []
def wysP (x y cp st en:Int) (l:List (Int × Int)) (t:List Rq) (req:Int) (ps:List (Int × Int)):List Wy:=ps.flatMap (wyOf x y cp st en l t req)
theorem wysP_snoc (x y cp st en:Int) (l:List (Int × Int)) (t:List Rq) (req:Int) (ps:List (Int × Int)) (p:Int × Int):
  wysP x y cp st en l t req (ps ++ [p]) = wysP x y cp st en l t req ps ++ wyOf x y cp st en l t req p:=by
 unfold wysP
 rw [List.flatMap_append]
 simp
theorem wyOf_len (x y cp st en:Int) (l:List (Int × Int)) (t:List Rq) (req:Int) (p:Int × Int):(wyOf x y cp st en l t req p).length≤1:=by
 unfold wyOf
 split <;> simp
theorem wysP_len (x y cp st en:Int) (l:List (Int × Int)) (t:List Rq) (req:Int):∀ ps:List (Int × Int),(wysP x y cp st en l t req ps).length≤ps.length
 | []=>by simp [wysP]
 | p :: r=>by
  have h1:=wysP_len x y cp st en l t req r
  have h2:=wyOf_len x y cp st en l t req p
  unfold wysP at h1 ⊢
  rw [List.flatMap_cons,List.length_append,List.length_cons]
  omega
def allP (x y cp st en:Int) (l:List (Int × Int)) (t:List Rq) (req:Int):List Wy × Int:=
 if (riseP x y cp st en l t req 0 0).2 = 0∨(riseP x y cp st en l t req 0 0).2 = 10∨(riseP x y cp st en l t req 0 0).2 = 9 then (wysP x y cp st en l t req (prs l.length),0) else ([],(riseP x y cp st en l t req 0 0).2)
def lstW:Wy→List Wy→Wy
 | b,[]=>b
 | b,x :: r=>lstW (if x.2.2 < b.2.2 then x else b) r
theorem lstW_snoc (b:Wy):∀ (r:List Wy) (x:Wy),lstW b (r ++ [x]) = if x.2.2 < (lstW b r).2.2 then x else lstW b r
 | [],x=>rfl
 | y :: r,x=>by
  show lstW _ (r ++ [x]) = _
  rw [lstW_snoc]
  rfl
theorem lstW_mem:∀ (r:List Wy) (b:Wy),lstW b r = b∨lstW b r ∈ r
 | [],b=>.inl rfl
 | y :: r,b=>by
  show lstW (if y.2.2 < b.2.2 then y else b) r = b∨_
  rcases lstW_mem r (if y.2.2 < b.2.2 then y else b) with h | h
  ·by_cases hb:y.2.2 < b.2.2
   ·rw [if_pos hb] at h
    right
    show lstW (if y.2.2 < b.2.2 then y else b) r ∈ _
    rw [if_pos hb,h]
    exact List.mem_cons_self
   ·rw [if_neg hb] at h
    left
    rw [if_neg hb]
    exact h
  ·right
   exact List.mem_cons_of_mem _ h
def bestP (x y cp st en:Int) (l:List (Int × Int)) (t:List Rq) (req:Int):Wy × Int:=
 if (allP x y cp st en l t req).2 ≠ 0 then ((0,0,0),(allP x y cp st en l t req).2) else match (allP x y cp st en l t req).1 with | []=>((0,0,0),12) | b :: r=>(lstW b r,0)
def cputP (x y cp st en:Int) (l:List (Int × Int)) (t:List Rq) (req:Int):List (Int × Int) × Int × Int:=
 if (bestP x y cp st en l t req).2 ≠ 0 then ([],0,(bestP x y cp st en l t req).2) else
  ((withP l req (bestP x y cp st en l t req).1.1 (bestP x y cp st en l t req).1.2.1).getD [],(bestP x y cp st en l t req).1.2.2,0)
end
section
section
open Go.ChangeShapes Go.WideShapes Go.ChangeAt Go.RowKit
structure DrA (w:World) (p:Option Addr) (B:List Int) (n wd:Int):Prop where
 els:∀ i b,B[i]? = some b→∃ a,p = some a∧w.cell? (a.add i) = some (.int .u8 b)
 rng:∀ b ∈ B,0≤b∧b < 256
 len:B.length≤9223372036854775807
 nb:0≤n∧n < 256
 wb:0≤wd∧wd < 256
theorem DrA.below {w w':World} {p:Option Addr} {B:List Int} {n wd:Int} (h:DrA w p B n wd) (hb:Below w.heap.size w w'):DrA w' p B n wd:=
 ⟨fun i b hb2=>by
  obtain ⟨a,ha,hc⟩:=h.els i b hb2
  exact ⟨a,ha,(hb.cell (World.block_lt_of_cell? _ _ hc)).trans hc⟩,h.rng,h.len,h.nb,h.wb⟩
theorem DrA.box {w:World} {p:Option Addr} {B:List Int} {n wd:Int} (h:DrA w p B n wd) (c:Nat) (k:Int):DrS (w.alloc (.cells (drC p c B n wd k) 24)) w.heap.size p c B n wd k:=
 ⟨Blk.new _ _ _,fun i b hb=>by
  obtain ⟨a,ha,hc⟩:=h.els i b hb
  exact ⟨a,ha,by have:=World.block_lt_of_cell? _ _ hc; rw [add_block] at this; omega,cellA _ hc⟩,h.rng,h.len,h.nb,h.wb⟩
section
variable {H:Type} {enc:TypeId × Value→H} {W:World} {base:Nat} {v:Value} {d:DataW H} {q:List MemPlace}
theorem open_u8 {w:World} {fuel:Nat} {held:Bool} {cs:List Value} {x:DataW H × List MemPlace} (h:DataW.trod enc Tryz.prog w base (fun _=>true) held fuel 5 cs = some x):
  ∃ b:Int,(0≤b∧b < 256)∧∀ (j:Nat) (v:Value),(u8V b)[j]? = some v→cs[j]? = some v:=by
 obtain ⟨b,e,_,wb⟩:=DataW.trod_int Tryz.underlying5 h
 refine ⟨b,u8_of wb,fun j v hj=>?_⟩
 match j with
 | 0=>cases hj; rw [e]; rfl
 | j + 1=>simp [u8V] at hj
theorem open_dr {w:World} {fuel:Nat} {held:Bool} {cs:List Value} {x:DataW H × List MemPlace} (h:DataW.trod enc Tryz.prog w base (fun _=>true) held fuel 24 cs = some x):
  ∃ (p:Option Addr) (c:Nat) (B:List Int) (n wd k:Int),DrA w p B n wd∧∀ (j:Nat) (v:Value),(drC p c B n wd k).toList[j]? = some v→cs[j]? = some v:=by
 have c5:Tryz.prog.cellsOf 5 = 1:=by kernel_rfl
 have cS:Tryz.prog.cellsOf 22 = 1:=by kernel_rfl
 obtain ⟨n,en,wn⟩:=fld_int Tryz.underlying24 h 1 _ rfl c5 Tryz.underlying5
 obtain ⟨wd,ew,ww⟩:=fld_int Tryz.underlying24 h 2 _ rfl c5 Tryz.underlying5
 obtain ⟨k,ek,wk⟩:=fld_int Tryz.underlying24 h 3 _ rfl c_int Tryz.underlying3
 obtain ⟨n0,y0,h0⟩:=fld_of Tryz.underlying24 h 0 _ rfl
 obtain ⟨p,L,c,e,hL,hLc,hcm,hb⟩:=open_rows (n:=1) (0:Int) u8V (fun b=>0≤b∧b < 256) (fun _=>rfl) Tryz.underlying22 c5 (fun _ _ _ h=>open_u8 h) h0
 have e0:cs[0]? = some (.slice p L.length c):=by
  have e2:(cs.drop 0).take (Tryz.prog.cellsOf 22) = [.slice p L.length c]:=e
  rw [cS] at e2
  exact take1 e2
 refine ⟨p,c,L,n,wd,k,⟨fun i b hb=>?_,hb,by omega,u8_of wn,u8_of ww⟩,fun j v hj=>?_⟩
 ·cases p with
  | none=>
   have:=hL.nil rfl
   simp at this
   subst this
   simp at hb
  | some a=>
   have:=hL.cells a rfl i (u8V b) 0 (.int .u8 b) (by rw [List.getElem?_map,hb]; rfl) rfl
   rw [Nat.mul_one,Nat.add_zero] at this
   exact ⟨a,rfl,this⟩
 ·match j with
  | 0=>cases hj; exact e0
  | 1=>cases hj; exact en
  | 2=>cases hj; exact ew
  | 3=>cases hj; exact ek
  | j + 4=>simp [drC] at hj
end
end
end
section
open Go.RowKit
theorem tmRun_late {t:List Rq} (ht:∀ q ∈ t,rqE q = 0):∀ (m:List (Int × Int)) (ax ay now:Int),(∀ s ∈ m,ptB s t = true)→∀ b X Y N,tmRun t m ax ay now = some (b,X,Y,N)→now≤N
 | [],ax,ay,now,_,b,X,Y,N,h=>by cases h; exact Int.le_refl _
 | s :: r,ax,ay,now,hs,b,X,Y,N,h=>by
  obtain ⟨_,hsv⟩:=pt_pl ht (hs s (by simp))
  rw [tmRun_cons] at h
  by_cases hw:waB (ptG s t).e (ptG s t).l (now + dsP ax ay (ptG s t).x (ptG s t).y) = true
  ·rw [if_pos hw] at h
   obtain ⟨q,hq,he⟩:=Option.map_eq_some_iff.1 h
   obtain ⟨b',x1,y1,n1⟩:=q
   cases he
   have ih:=tmRun_late ht r _ _ _ (fun u hu=>hs u (by simp [hu])) b' X Y N hq
   have h1:=(mx_ge (now + dsP ax ay (ptG s t).x (ptG s t).y) (ptG s t).e).1
   have h2:=(dsP_bd ax ay (ptG s t).x (ptG s t).y).1
   have hwn:waN (ptG s t).e (ptG s t).l (now + dsP ax ay (ptG s t).x (ptG s t).y) = mx (now + dsP ax ay (ptG s t).x (ptG s t).y) (ptG s t).e:=by unfold waN; rw [if_pos hw]
   rw [hwn] at ih
   omega
  ·rw [if_neg hw] at h; cases h
theorem tm_right {x y cp st en:Int} {l:List (Int × Int)} {t:List Rq} (h:RightP x y cp st en l t):(tmP x y cp st en l t).2.2 = 0∧st≤(tmP x y cp st en l t).2.1∧(tmP x y cp st en l t).2.1≤en∧0≤st∧en≤1048576∧(tmP x y cp st en l t).1.length = l.length:=by
 have hz:=((right_iff x y cp st en l t).1 h).1
 have hS:=ste_len (right_wo h (-1)).2.1
 obtain ⟨hv,ht,hl,hR,hT,hk,b,ax',ay',n',h3,h4⟩:=h
 have hb:=vehCode_zero hv
 have hla:=tmRun_late ht l x y st (ptB_of hR hT) b ax' ay' n' h3
 have hd:=(dsP_bd ax' ay' x y).1
 refine ⟨hz,?_,?_,by omega,by omega,hS.2⟩
 ·unfold tmP at hz ⊢
  by_cases hwr:wrP x y cp st en l t = 0
  ·rw [if_neg (by omega),h3]
   simp only
   rw [if_neg (by omega)]
   dsimp only
   omega
  ·rw [if_pos hwr] at hz; exact absurd hz hwr
 ·unfold tmP at hz ⊢
  by_cases hwr:wrP x y cp st en l t = 0
  ·rw [if_neg (by omega),h3]
   simp only
   rw [if_neg (by omega)]
   exact h4
  ·rw [if_pos hwr] at hz; exact absurd hz hwr
theorem putP_right {x y cp st en:Int} {l:List (Int × Int)} {t:List Rq} {req:Int} {i j:Nat} (hij:i≤j) (hj:j≤l.length) (hr:0≤req∧req < t.length) (hn:∀ s ∈ l,s.1 ≠ req) (hl:l.length≤14) (h0:(tmP x y cp st en l t).2.2 = 0):
  putP x y cp st en l t req i j = (withL l req i j,(tmP x y cp st en l t).2.1,0):=by
 have ha:¬ l.any (fun s=>s.1 == req) = true:=by
  rw [List.any_eq_true]
  rintro ⟨s,hs,e⟩
  exact hn s hs (by simpa using e)
 unfold putP
 rw [if_neg (by simp only [not_or]; exact ⟨by omega,by omega,ha⟩),if_neg (by omega),if_neg (by omega),withP_some hij hj hr.1 hn hl]
 rfl
theorem rise_right {x y cp st en:Int} {l:List (Int × Int)} {t:List Rq} {req:Int} {i j:Nat} (hij:i≤j) (hj:j≤l.length) (hr:0≤req∧req < t.length) (hn:∀ s ∈ l,s.1 ≠ req) (hl:l.length≤14) (h:RightP x y cp st en (withL l req i j) t):
  RightP x y cp st en l t∧riseP x y cp st en l t req i j = ((tmP x y cp st en (withL l req i j) t).2.1 - (tmP x y cp st en l t).2.1,0)∧0≤(tmP x y cp st en (withL l req i j) t).2.1 - (tmP x y cp st en l t).2.1:=by
 obtain ⟨h1,h2,h3⟩:=right_wo h req
 rw [woP_withL hn hij] at h1 h2 h3
 have hm:=tm_right h
 have hl1:=tm_right h1
 have hf:=((right_iff x y cp st en _ t).1 h).2
 refine ⟨h1,?_,by omega⟩
 unfold riseP
 rw [putP_right hij hj hr hn hl hl1.1]
 dsimp only
 rw [if_neg (by omega),if_neg (by omega),if_neg (by omega),IntWalk.wrap64_in _ (by omega)]
theorem rise_wrong {x y cp st en:Int} {l:List (Int × Int)} {t:List Rq} {req:Int} {i j:Nat} (hij:i≤j) (hj:j≤l.length) (hr:0≤req∧req < t.length) (hn:∀ s ∈ l,s.1 ≠ req) (hl:l.length≤14) (h:¬ RightP x y cp st en (withL l req i j) t):
  (riseP x y cp st en l t req i j).1 = 0∧(riseP x y cp st en l t req i j).2 ≠ 0:=by
 unfold riseP
 by_cases h1:(putP x y cp st en l t req i j).2.2 ≠ 0
 ·rw [if_pos h1]; exact ⟨rfl,h1⟩
 rw [if_neg h1]
 by_cases h2:(fitP x y cp st en (putP x y cp st en l t req i j).1 t).2 ≠ 0
 ·rw [if_pos h2]; exact ⟨rfl,h2⟩
 rw [if_neg h2]
 by_cases h3:(tmP x y cp st en (putP x y cp st en l t req i j).1 t).2.2 ≠ 0
 ·rw [if_pos h3]; exact ⟨rfl,h3⟩
 exfalso
 obtain ⟨_,_,hw,_,_,_⟩:=putP_zero (by simpa using h1)
 rw [withP_some hij hj hr.1 hn hl] at hw
 cases hw':(putP x y cp st en l t req i j).1 with
 | _=>
  rw [← Option.some.inj hw] at h2 h3
  exact h ((right_iff x y cp st en _ t).2 ⟨by simpa using h3,by simpa using h2⟩)
end
section
open Go.RowKit
def fstI {α:Type} (P:α→Bool) (l:List α):Int:=match l.findIdx? P with | some k=>(k:Int) | none=>-1
theorem fstI_hit {α:Type} {P:α→Bool} {l:List α} {k:Nat} (hk:k < l.length) (h:P l[k] = true) (hn:∀ j x,j < k→l[j]? = some x→P x = false):fstI P l = k:=by
 have:l.findIdx? P = some k:=by
  rw [List.findIdx?_eq_some_iff_getElem]
  refine ⟨hk,h,fun j hj=>?_⟩
  rw [hn j _ hj (List.getElem?_eq_getElem (by omega))]
  decide
 unfold fstI
 rw [this]
theorem fstI_none {α:Type} {P:α→Bool} {l:List α} (hn:∀ j x,j < l.length→l[j]? = some x→P x = false):fstI P l = -1:=by
 have:l.findIdx? P = none:=by
  rw [List.findIdx?_eq_none_iff]
  intro x hx
  obtain ⟨j,hj,rfl⟩:=List.getElem_of_mem hx
  exact hn j _ hj (List.getElem?_eq_getElem hj)
 unfold fstI
 rw [this]
theorem indexF_stop (p:Option Addr) (c:Nat) (R:List (Int × Int)) (f:FuncId) (caps:Array Value) (Pd:Int × Int→Bool) (w:World) (hE:Els w p 2 (R.map stV)) (eg:∀ args w,(callFunc f args).run Tryz.prog w = .ok (.enter f args) w)
  (hf:∀ r ∈ R,∀ wx,Below w.heap.size w wx→Calls Tryz.prog f (#[.agg #[.int .i64 r.1,.int .i64 r.2]] ++ caps) wx fun e w'=>e = .returned (.bool (Pd r))∧Below wx.heap.size wx w'):
  Calls Tryz.prog 84 #[.slice p R.length c,.func (.func f) #[] caps] w fun e w'=>e = .returned (.int .i64 (fstI Pd R))∧Below w.heap.size w w':=by
 have hb:R.length≤140737488351232:=by simpa using hE.big
 have hit:=Lib.hid (fun (k:Nat) (hk:k < R.length) h hn=>fstI_hit (P:=Pd) hk h hn)
 have hno:=Lib.hid (fun hn=>fstI_none (P:=Pd) (l:=R) hn)
 generalize fstI Pd R = X at hit hno ⊢
 replace hE:=Lib.hid hE
 replace hf:=Lib.hid hf
 go_enter Tryz.func84,Tryz.ntmps84
 go_wp2_with fail
 go_loopw [8] (fun i wr=>∃ k:Nat,k≤R.length∧i = .int .i64 k∧Hid (∀ (j:Nat) (r:Int × Int),j < k→R[j]? = some r→Pd r = false)∧Below w.heap.size w wr) (fun i _=>R.length - (intOf i).toNat)
 case atStart=>exact ⟨0,Nat.zero_le _,rfl,Lib.hid (fun j r h=>by omega),Below.refl _ _⟩
 case round=>
  obtain ⟨k,hk,rfl,hR,hbr⟩:=hrel
  by_cases hlt:k < R.length
  ·have hltI:(k:Int) < (R.length:Int):=by omega
   have s1:IntKind.i64.wrap ((k:Int) + 1) = (k:Int) + 1:=IntWalk.i64_in _ (by omega)
   obtain ⟨a,rfl⟩:=(hE.out.below hbr).some_of (k:=k) (by simpa using hlt)
   have hc:Hid ((loadVar 125 (a.add (k * 2))).run Tryz.prog wr = .ok (.agg #[.int .i64 R[k].1,.int .i64 R[k].2]) wr):=Lib.hid (by
    have:=(hE.out.below hbr).load (P:=Tryz.prog) (a:=a) rfl (k:=k) (by simpa using hlt) (ty:=125) Tryz.underlying125 rfl (by kernel_rfl)
    rw [List.getElem_map] at this
    exact this)
   have hfk:=Lib.hid (hf.out _ (List.getElem_mem hlt) wr hbr)
   have hok:Hid (Pd R[k] = false→∀ (j:Nat) (r:Int × Int),j < k + 1→R[j]? = some r→Pd r = false):=Lib.hid (fun h j u hj hju=>by
    by_cases e:j = k
    ·subst e; rw [List.getElem?_eq_getElem hlt] at hju; cases hju; exact h
    ·exact hR.out j u (by omega) hju)
   have hhit:=Lib.hid (fun h=>hit.out k hlt h hR.out)
   clear hit hno
   generalize R[k] = r at hc hfk hok hhit
   generalize Pd r = b at hfk hok hhit
   clear hR
   go_wp2_with (first | (refine wpList_load_v rfl 125 _ rfl (a.add (k * 2)) rfl _ hc.out ?_))
   refine hfk.out.mono ?_
   rintro e w2 ⟨rfl,hb2⟩
   replace hb2:=hbr.trans (hb2.mono hbr.size)
   clear hfk hbr hc
   cases b with
   | true=>
    obtain rfl:X = (k:Int):=hhit.out rfl
    clear hhit hok
    go_wp2
    go_ret
    exact ⟨rfl,hb2⟩
   | false=>
    have hok':=Lib.hid (hok.out rfl)
    clear hhit hok
    go_wp2_with fail
    go_roundw
    case rel=>exact ⟨k + 1,by omega,by simp,hok',hb2⟩
    case measure=>simp [intOf]; omega
  ·obtain rfl:k = R.length:=by omega
   obtain rfl:X = -1:=hno.out hR.out
   clear hR hno hit
   go_wp2
   go_ret
   exact ⟨rfl,hbr⟩
def StC (D:Array Value) (k:Nat) (s:Int × Int):Prop:=D[k * 2]? = some (.int .i64 s.1)∧D[k * 2 + 1]? = some (.int .i64 s.2)
def StR (D:Array Value) (R:List (Int × Int)):Prop:=∀ (k:Nat) (s:Int × Int),R[k]? = some s→StC D k s
theorem ownS_blk {w:World} {base n k cap:Nat} {E:TypeId} {p:Option Addr} {xs:List Value} (h:w.ownsRow base E n (.slice p k cap) k xs) (hk:0 < k):
  ∃ (g:Nat) (C:Array Value),p = some ⟨g,0,none⟩∧Blk w g C E∧base≤g∧∀ (j:Nat) (v:Value),xs[j]? = some v→C[j]? = some v:=by
 rcases h.2 with ⟨hv,_⟩ | ⟨g,cap',cur,hv,hg,hh,_,_,_,ht⟩
 ·simp only [Value.slice.injEq] at hv
  omega
 ·simp only [Value.slice.injEq] at hv
  refine ⟨g,cur,hv.1,hh,hg,fun j v hj=>?_⟩
  rw [← ht] at hj
  have hlt:=(List.getElem?_eq_some_iff.1 hj).1
  rw [List.length_take] at hlt
  rw [List.getElem?_take_of_lt (by omega)] at hj
  simpa using hj
theorem stR_of {C:Array Value} {R:List (Int × Int)} (h:∀ (j:Nat) (v:Value),(R.map stV).flatten[j]? = some v→C[j]? = some v):StR C R:=fun k s hs=>
 ⟨h _ _ (by have:=flat_at (n:=2) (R.map stV) k 0 (stV s) (.int .i64 s.1) (stV_len R) (by rw [List.getElem?_map,hs]; rfl) rfl; simpa using this),
  h _ _ (flat_at (n:=2) (R.map stV) k 1 (stV s) (.int .i64 s.2) (stV_len R) (by rw [List.getElem?_map,hs]; rfl) rfl)⟩
theorem stR_els {w:World} {g:Nat} {C:Array Value} {R:List (Int × Int)} {E:TypeId} (h:StR C R) (hB:Blk w g C E) (hl:R.length≤140737488351232):Els w (some ⟨g,0,none⟩) 2 (R.map stV):=
 ⟨fun e=>(by cases e),stV_len R,by rw [List.length_map]; exact hl,fun a ha k x j v hk hj=>by
  cases ha
  rw [List.getElem?_map] at hk
  simp only [Option.map_eq_some_iff] at hk
  obtain ⟨s,hs,rfl⟩:=hk
  obtain ⟨h1,h2⟩:=h k s hs
  rw [add0]
  match j with
  | 0=>cases hj; exact hB.cell h1
  | 1=>cases hj; exact hB.cell h2
  | j + 2=>simp [stV] at hj⟩
theorem run_nilS {ρ:Operand→Value} {o:Oper} {w:World} {x:Operand} {p:Option Addr} {n c:Nat} (ho:o.op = .binOp .eql 82 x (.const (.slice none 0 0)) 82) (hx:ρ x = .slice p n c) (hc:ρ (.const (.slice none 0 0)) = .slice none 0 0:=by rfl):
  (execOp ρ o).run Tryz.prog w = .ok (.value (.bool p.isNone)) w:=by
 have h:=Lib.run_eql_slice_nil (P:=Tryz.prog) w 82 125 p n c 0 0 Tryz.underlying82
 cases p <;> (unfold execOp; simp only [ho,hx,hc]; go_simp)
theorem rsl_stZ (w:World):(Instr.buildSlice 82 0 #[]).run Tryz.prog w = .ok (.slice (some ⟨w.heap.size,0,none⟩) 0 0) (w.alloc (.cells #[] 125)):=by kernel_rfl
def ClPost (w:World) (l:List (Int × Int)) (e:Ending) (w':World):Prop:=
 Below w.heap.size w w'∧∃ q d,e = .returned (.slice q l.length d)∧(l.length≤d∧d≤9223372036854775807)∧Els w' q 2 (l.map stV)∧
  (0 < l.length→∃ (g:Nat) (C:Array Value),q = some ⟨g,0,none⟩∧w.heap.size≤g∧Blk w' g C 125∧StR C l)
theorem clone_calls (p:Option Addr) (c:Nat) (l:List (Int × Int)) (w:World) (hE:Els w p 2 (l.map stV)) (hl:l.length≤1000):
  Calls Tryz.prog 57 #[.slice p l.length c] w (ClPost w l):=by
 cases p with
 | none=>
  have h0:l = []:=by have:=hE.nil rfl; simpa using this
  subst h0
  clear hE
  show Calls Tryz.prog 57 #[.slice none 0 c] w _
  go_enter Tryz.func57,Tryz.ntmps57
  go_wp2_with (refine wpList_v rfl (.bool true) (run_nilS (p:=none) rfl rfl) ?_)
  go_ret
  exact ⟨Below.refl _ _,none,0,rfl,⟨Nat.le_refl _,by omega⟩,⟨fun _=>rfl,fun x hx=>(by cases hx),by simp,fun a ha=>by cases ha⟩,fun h=>by cases h⟩
 | some a=>
  have ho1:=Lib.hid (World.ownsRow_made (base:=w.heap.size) (e:=125) (size:=2) w #[] 0 (Nat.le_refl _) (by unfold maxLen; omega) rfl)
  have hlow1:=Lib.hid (new_below w (.cells #[] 125))
  have hEA:=Lib.hid (hE.below hlow1.out)
  have hz1:=Lib.hid hlow1.out.size
  have hTl:=Lib.hid (show l.length = (l.map stV).length by rw [List.length_map])
  have hall:=Lib.hid (stV_all l)
  replace hE:=Lib.hid hE
  go_enter Tryz.func57,Tryz.ntmps57
  go_wp2_with (first | (refine wpList_v rfl (.bool false) (run_nilS (p:=some a) rfl rfl) ?_) | (refine wpList_bs0 rfl 82 0 rfl _ _ (rsl_stZ _) ?_) |
   (refine wpList_appE st_el rfl _ _ rfl w.heap.size hz1.out _ 0 [] rfl ho1.out (by omega) (some a) l.length c _ rfl hEA.out hTl.out (by omega) hall.out ?_; intro v6 w6 hO6 hg6))
  have hlow6:=grown_low hlow1.out (Nat.le_refl _) (Nat.le_refl _) ho1.out hg6
  rw [Nat.zero_add,List.nil_append] at hO6
  obtain ⟨qO,nO,dO,rfl⟩:=own_isS hO6
  obtain ⟨hEO,hnO,hdO,_⟩:=own_els (R:=l.map stV) (stV_len _) (by rw [List.length_map]; exact hO6) (by rw [List.length_map]; omega)
  rw [List.length_map] at hnO
  subst hnO
  have hcap:=own_cap hO6
  have hown:0 < l.length→∃ (g:Nat) (C:Array Value),qO = some ⟨g,0,none⟩∧w.heap.size≤g∧Blk w6 g C 125∧StR C l:=fun h0=>by
   obtain ⟨g,C,h1,h2,h3,h4⟩:=ownS_blk hO6 h0
   exact ⟨g,C,h1,h3,h2,stR_of h4⟩
  clear ho1 hlow1 hEA hz1 hg6 hO6 hall hTl
  go_wp2_with fail
  go_ret
  exact ⟨hlow6,qO,dO,rfl,⟨hdO,hcap⟩,hEO,hown⟩
def keepL (Pd:Int × Int→Bool) (l:List (Int × Int)):List (Int × Int):=l.filter fun s=>!Pd s
theorem keepL_succ (Pd:Int × Int→Bool) (l:List (Int × Int)) {j:Nat} (hj:j < l.length):keepL Pd (l.take (j + 1)) = keepL Pd (l.take j) ++ if Pd l[j] = true then [] else [l[j]]:=by
 unfold keepL
 rw [List.take_succ_eq_append_getElem hj,List.filter_append]
 cases h:Pd l[j] <;> simp [h]
theorem keepL_len (Pd:Int × Int→Bool) (l:List (Int × Int)):(keepL Pd l).length≤l.length:=List.length_filter_le _ _
theorem keepL_all {Pd:Int × Int→Bool} {l:List (Int × Int)} (h:∀ (j:Nat) (s:Int × Int),j < l.length→l[j]? = some s→Pd s = false):keepL Pd l = l:=by
 unfold keepL
 rw [List.filter_eq_self]
 intro s hs
 obtain ⟨j,hj,rfl⟩:=List.getElem_of_mem hs
 rw [h j _ hj (List.getElem?_eq_getElem hj)]
 rfl
theorem fstI_cases {α:Type} (P:α→Bool) (l:List α):(fstI P l = -1∧∀ (j:Nat) (x:α),j < l.length→l[j]? = some x→P x = false)∨∃ (k:Nat) (h:k < l.length),fstI P l = k∧P l[k] = true∧∀ (j:Nat) (x:α),j < k→l[j]? = some x→P x = false:=by
 cases h:l.findIdx? P with
 | none=>
  left
  refine ⟨by unfold fstI; rw [h],fun j x _ hx=>?_⟩
  exact (List.findIdx?_eq_none_iff.1 h) x (List.mem_of_getElem? hx)
 | some k=>
  right
  obtain ⟨hk,h1,h2⟩:=List.findIdx?_eq_some_iff_getElem.1 h
  refine ⟨k,hk,by unfold fstI; rw [h],h1,fun j x hj hx=>?_⟩
  have:=h2 j hj
  rw [List.getElem?_eq_getElem (by omega)] at hx
  cases hx
  simpa using this
def DfC (Pd:Int × Int→Bool) (l:List (Int × Int)) (n j m:Nat) (D:Array Value):Prop:=
 D.size = n∧m = (keepL Pd (l.take j)).length∧m < j∧StR D (keepL Pd (l.take j))∧∀ (k:Nat) (s:Int × Int),j≤k→l[k]? = some s→StC D k s
theorem dfC_start {Pd:Int × Int→Bool} {l:List (Int × Int)} {D:Array Value} {k:Nat} (hR:StR D l) (hk:k < l.length) (h1:Pd l[k] = true) (hn:∀ (j:Nat) (x:Int × Int),j < k→l[j]? = some x→Pd x = false):DfC Pd l D.size (k + 1) k D:=by
 have e:keepL Pd (l.take k) = l.take k:=keepL_all (fun j s hj hs=>by
  rw [List.length_take] at hj
  rw [List.getElem?_take_of_lt (by omega)] at hs
  exact hn j s (by omega) hs)
 have e2:keepL Pd (l.take (k + 1)) = l.take k:=by rw [keepL_succ Pd l hk,if_pos h1,e,List.append_nil]
 refine ⟨rfl,by rw [e2,List.length_take]; omega,by omega,?_,fun j s _ hs=>hR j s hs⟩
 rw [e2]
 intro j s hs
 rw [List.getElem?_take] at hs
 split at hs
 ·exact hR j s hs
 ·cases hs
theorem dfC_skip {Pd:Int × Int→Bool} {l:List (Int × Int)} {n j m:Nat} {D:Array Value} (h:DfC Pd l n j m D) (hj:j < l.length) (hp:Pd l[j] = true):DfC Pd l n (j + 1) m D:=by
 obtain ⟨h0,h1,h2,h3,h4⟩:=h
 have e:keepL Pd (l.take (j + 1)) = keepL Pd (l.take j):=by rw [keepL_succ Pd l hj,if_pos hp,List.append_nil]
 exact ⟨h0,by rw [e]; exact h1,by omega,by rw [e]; exact h3,fun k s hk hs=>h4 k s (by omega) hs⟩
theorem dfC_put {Pd:Int × Int→Bool} {l:List (Int × Int)} {n j m:Nat} {D D':Array Value} (h:DfC Pd l n j m D) (hj:j < l.length) (hp:Pd l[j] = false) (hs:D'.size = D.size)
  (hg:∀ i:Nat,D'[i]? = if m * 2≤i∧i < m * 2 + 2 then (#[Value.int .i64 l[j].1,.int .i64 l[j].2]:Array Value)[i - m * 2]? else D[i]?):DfC Pd l n (j + 1) (m + 1) D':=by
 obtain ⟨h0,h1,h2,h3,h4⟩:=h
 have e:keepL Pd (l.take (j + 1)) = keepL Pd (l.take j) ++ [l[j]]:=by rw [keepL_succ Pd l hj,if_neg (by rw [hp]; decide)]
 refine ⟨by rw [hs,h0],by rw [e,List.length_append,← h1]; rfl,by omega,?_,fun k s hk hks=>?_⟩
 ·rw [e]
  intro k s hks
  by_cases hkm:k < m
  ·rw [List.getElem?_append_left (by omega)] at hks
   obtain ⟨g1,g2⟩:=h3 k s hks
   exact ⟨by rw [hg,if_neg (by omega)]; exact g1,by rw [hg,if_neg (by omega)]; exact g2⟩
  ·rw [List.getElem?_append_right (by omega),← h1] at hks
   have hkm':k = m:=by
    have:=(List.getElem?_eq_some_iff.1 hks).1
    simp at this
    omega
   subst hkm'
   rw [Nat.sub_self] at hks
   cases hks
   exact ⟨by rw [hg,if_pos (by omega),Nat.sub_self]; rfl,by rw [hg,if_pos (by omega),show k * 2 + 1 - k * 2 = 1 by omega]; rfl⟩
 ·obtain ⟨g1,g2⟩:=h4 k s (by omega) hks
  exact ⟨by rw [hg,if_neg (by omega)]; exact g1,by rw [hg,if_neg (by omega)]; exact g2⟩
theorem zero_cells (n:Nat):∀ v ∈ (Builtin.zeroCells #[Value.int .i64 0,.int .i64 0] n).toList,v.oneCell' = true:=by
 intro v hv
 unfold Builtin.zeroCells at hv
 rw [Array.mem_toList_iff,Array.mem_map] at hv
 obtain ⟨i,_,rfl⟩:=hv
 have:i % 2 = 0∨i % 2 = 1:=by omega
 show ((#[Value.int .i64 0,.int .i64 0]:Array Value)[i % 2]!).oneCell' = true
 rcases this with e | e <;> rw [e] <;> rfl
theorem run_clearS {w:World} {g o n c:Nat} {D:Array Value} (hB:Blk w g D 125) (ho:o + n * 2≤D.size) (ty:TypeId):
  ∃ w' D',(Builtin.clear_ #[82] ty #[.slice (some ⟨g,o,none⟩) n c]).run Tryz.prog w = .ok (.tuple #[]) w'∧Blk w' g D' 125∧Mod (· = g) w w'∧∀ i,i < o→D'[i]? = D[i]?:=by
 by_cases hn:n = 0
 ·subst hn
  refine ⟨w,D,?_,hB,Mod.refl _ _,fun _ _=>rfl⟩
  simp [Builtin.clear_,run_underlying Tryz.underlying82]
 ·obtain ⟨m,rfl⟩:∃ m,n = m + 1:=⟨n - 1,by omega⟩
  have hlen:(Builtin.zeroCells #[Value.int .i64 0,.int .i64 0] (m + 1)).toList.length = (m + 1) * 2:=by simp [Builtin.zeroCells]
  have e:=run_storeCells_at (P:=Tryz.prog) g o 125 (Builtin.zeroCells #[Value.int .i64 0,.int .i64 0] (m + 1)).toList 0 D w hB (by rw [hlen]; omega) (zero_cells _)
  rw [hlen] at e
  simp only [Nat.add_zero] at e
  have e':(Builtin.clear_ #[82] ty #[.slice (some ⟨g,o,none⟩) (m + 1) c]).run Tryz.prog w = .ok (.tuple #[]) (w.setRow g (D.toList.take o ++ (Builtin.zeroCells #[Value.int .i64 0,.int .i64 0] (m + 1)).toList ++ D.toList.drop (o + (m + 1) * 2)).toArray):=by
   simp [Builtin.clear_,run_underlying Tryz.underlying82,Value.cells,e]
  refine ⟨_,_,e',setRow_heap w g D _ 125 (0,0) hB,⟨rfl,rfl,rfl,by simp [World.setRow],fun k _ hk=>setRow_other w g k _ hk⟩,fun i hi=>?_⟩
  rw [List.getElem?_toArray,List.append_assoc,List.getElem?_append_left (by simp; omega),List.getElem?_take_of_lt hi,Array.getElem?_toList]
theorem exec_clearS {ρ:Operand→Value} {o:Oper} {w w':World} {x:Operand} {v:Value} {ty:TypeId} (ho:o.op = .call { callee:=.builtin .clear,args:=#[x],argTypes:=#[ty] }) (hx:ρ x = v) (h:(Builtin.clear_ #[ty] o.type #[v]).run Tryz.prog w = .ok (.tuple #[]) w'):
  (execOp ρ o).run Tryz.prog w = .ok (.value (.tuple #[])) w':=by
 unfold execOp
 simp only [ho,resolve,invoke,builtin,Sem.run_bind,Sem.run_pure,Result.andThen_ok,List.map_toArray,List.map_cons,List.map_nil,hx,h]
theorem delF_calls (g c:Nat) (D:Array Value) (l:List (Int × Int)) (f:FuncId) (caps:Array Value) (Pd:Int × Int→Bool) (w:World) (hB:Blk w g D 125) (hR:StR D l) (h0:0 < l.length) (hl:l.length≤1000) (hc:l.length≤c∧c≤9223372036854775807)
  (eg:∀ args w,(callFunc f args).run Tryz.prog w = .ok (.enter f args) w)
  (hf:∀ r ∈ l,∀ wx,Mod (· = g) w wx→Calls Tryz.prog f (#[.agg #[.int .i64 r.1,.int .i64 r.2]] ++ caps) wx fun e w'=>e = .returned (.bool (Pd r))∧Below wx.heap.size wx w'):
  Calls Tryz.prog 56 #[.slice (some ⟨g,0,none⟩) l.length c,.func (.func f) #[] caps] w fun e w'=>
   e = .returned (.slice (some ⟨g,0,none⟩) (keepL Pd l).length c)∧Mod (· = g) w w'∧∃ D',Blk w' g D' 125∧StR D' (keepL Pd l):=by
 have hsz:l.length * 2≤D.size:=by
  have:=(hR (l.length - 1) l[l.length - 1] (List.getElem?_eq_getElem (by omega))).2
  have:=(Array.getElem?_eq_some_iff.1 this).1
  omega
 have hif:=Lib.hid (indexF_stop (some ⟨g,0,none⟩) c l f caps Pd w (stR_els hR hB (by omega)) eg (fun r hr wx hb=>hf r hr wx ((Mod.refl _ w).after hb)))
 have hkl:=keepL_len Pd l
 obtain ⟨R,hRe⟩:∃ R,keepL Pd l = R:=⟨_,rfl⟩
 rw [hRe] at hkl ⊢
 replace hf:=Lib.hid hf
 replace hB:=Lib.hid hB
 rcases fstI_cases Pd l with ⟨e1,hall⟩ | ⟨k0,hk0,e1,hp0,hn0⟩
 ·rw [e1] at hif
  have e2:=keepL_all hall
  obtain rfl:R = l:=hRe.symm.trans e2
  replace hR:=Lib.hid hR
  clear hall e1 e2 hf hkl hRe
  go_enter Tryz.func56,Tryz.ntmps56
  go_wp2_with fail
  refine hif.out.mono ?_
  rintro e w1 ⟨rfl,hb1⟩
  have hm:=(Mod.refl (· = g) w).after hb1
  have hB1:=hB.out.mod ((Mod.refl (fun _=>False) w).after hb1) (fun h=>h)
  replace hB1:=Lib.hid hB1
  clear hif hb1
  go_wp2_with fail
  go_ret
  exact ⟨rfl,hm,D,hB1.out,hR.out⟩
 ·rw [e1] at hif
  replace hRe:=Lib.hid hRe
  have hst:=Lib.hid (dfC_start hR hk0 hp0 hn0)
  generalize D.size = N at hst hsz
  clear hR e1 hp0 hn0
  have s0:IntKind.i64.wrap ((k0:Int) + 1) = (k0:Int) + 1:=IntWalk.i64_in _ (by omega)
  go_enter Tryz.func56,Tryz.ntmps56
  go_wp2_with fail
  refine hif.out.mono ?_
  rintro e w1 ⟨rfl,hb1⟩
  have hm1:=(Mod.refl (· = g) w).after hb1
  have hB1:=hB.out.mod ((Mod.refl (fun _=>False) w).after hb1) (fun h=>h)
  replace hB1:=Lib.hid hB1
  clear hif hb1
  have hne:((k0:Int) == -1) = false:=by simp
  replace hm1:=Lib.hid hm1
  go_wp2_with fail
  clear hne
  go_loopw [5,6] (fun i5 i6 wx=>∃ (j m:Nat) (D:Array Value),j≤l.length∧i6 = .int .i64 j∧i5 = .int .i64 m∧Hid (DfC Pd l N j m D)∧Blk wx g D 125∧Mod (· = g) w wx) (fun _ i6 _=>l.length - (intOf i6).toNat)
  case atStart=>exact ⟨k0 + 1,k0,D,by omega,by simp,rfl,hst,hB1.out,hm1.out⟩
  case round=>
   clear hst hB1 hm1 hB s0
   obtain ⟨j,m,D,hj,rfl,rfl,hD,hB,hm⟩:=hrel
   have hmj:m < j:=hD.out.2.2.1
   have hDs:D.size = N:=hD.out.1
   by_cases hlt:j < l.length
   ·have hltI:(j:Int) < (l.length:Int):=by omega
    have s1:IntKind.i64.wrap ((j:Int) + 1) = (j:Int) + 1:=IntWalk.i64_in _ (by omega)
    have s2:IntKind.i64.wrap ((m:Int) + 1) = (m:Int) + 1:=IntWalk.i64_in _ (by omega)
    have hc1:Hid ((loadVar 125 ⟨g,j * 2,none⟩).run Tryz.prog wr = .ok (.agg #[.int .i64 l[j].1,.int .i64 l[j].2]) wr):=Lib.hid (by
     obtain ⟨c1,c2⟩:=hD.out.2.2.2.2 j l[j] (Nat.le_refl _) (List.getElem?_eq_getElem hlt)
     have:=load_part (P:=Tryz.prog) wr g D 125 hB (j * 2) 2 (by omega) 125 _ Tryz.underlying125 rfl (by kernel_rfl)
     rw [ext_row (n:=2) (X:=#[.int .i64 l[j].1,.int .i64 l[j].2]) (by omega) rfl (fun i hi=>by
      match i,hi with
      | 0,_=>exact c1
      | 1,_=>exact c2)] at this
     exact this)
    have hB2:=hB.alloc (.cells #[.int .i64 l[j].1,.int .i64 l[j].2] 125)
    have hm2:=hm.alloc (.cells #[.int .i64 l[j].1,.int .i64 l[j].2] 125)
    have hbx:=Blk.new wr #[.int .i64 l[j].1,.int .i64 l[j].2] 125
    have hfk:=Lib.hid (fun wx hm=>hf.out _ (List.getElem_mem hlt) wx hm)
    have hgr:g ≠ wr.heap.size:=by have:=hB.lt; omega
    have P1:=Lib.hid (show Blk (wr.alloc (.cells #[.int .i64 l[j].1,.int .i64 l[j].2] 125)) g D 125∧Mod (· = g) w (wr.alloc (.cells #[.int .i64 l[j].1,.int .i64 l[j].2] 125))∧Blk (wr.alloc (.cells #[.int .i64 l[j].1,.int .i64 l[j].2] 125)) wr.heap.size #[.int .i64 l[j].1,.int .i64 l[j].2] 125 from ⟨hB2,hm2,hbx⟩)
    have hskip:=Lib.hid (fun hp=>dfC_skip hD.out hlt hp)
    have hput:=Lib.hid (fun hp D' hs hg=>dfC_put (D':=D') hD.out hlt hp hs hg)
    clear hB hm hB2 hm2 hbx hD
    generalize l[j] = s at *
    obtain ⟨r,q⟩:=s
    dsimp only at *
    go_upto_region 8 with (first | (refine wpList_load_v rfl 125 _ rfl ⟨g,j * 2,none⟩ rfl _ hc1.out ?_) |
     (refine wpList_store_new rfl 125 _ _ rfl rfl rfl _ #[.int .i64 r,.int .i64 q] _ rfl rfl (by simp [Value.oneCell']) (by kernel_rfl) ?_))
    refine wp_world' (fun wx=>Blk wx g D 125∧Mod (· = g) w wx∧Blk wx wr.heap.size #[.int .i64 r,.int .i64 q] 125) P1.out ?_
    clear P1 hc1
    rintro w4 ⟨hB,hm,hbx⟩
    replace hfk:=Lib.hid (hfk.out w4 hm)
    generalize Pd (r,q) = pb at hfk hskip hput
    have hlx:=Lib.hid (fun wx (h:Below w4.heap.size w4 wx)=>run_load_row' (P:=Tryz.prog) wx wr.heap.size 125 #[.int .i64 r,.int .i64 q] 125 _ (hbx.mod ((Mod.refl (fun _=>False) _).after h) (fun h=>h)) Tryz.underlying125 rfl (by kernel_rfl))
    have hl1:=Lib.hid (hlx.out w4 (Below.refl _ _))
    replace hB:=Lib.hid hB
    replace hm:=Lib.hid hm
    clear hbx
    go_wp2_with (first | (refine wpList_load_v rfl 125 _ rfl ⟨wr.heap.size,0,none⟩ rfl _ hl1.out ?_))
    refine hfk.out.mono ?_
    rintro e w5 ⟨rfl,hb5⟩
    have hB5:=Lib.hid (hB.out.mod ((Mod.refl (fun _=>False) _).after hb5) (fun h=>h))
    have hm5:=Lib.hid (hm.out.after hb5)
    have hl2:=Lib.hid (hlx.out w5 hb5)
    clear hfk hlx hl1 hB hm hb5
    cases pb with
    | true=>
     have hsk:=Lib.hid (hskip.out rfl)
     clear hskip hput hl2
     go_wp2_with fail
     go_roundw
     case rel=>exact ⟨j + 1,m,D,by omega,by simp,rfl,hsk,hB5.out,hm5.out⟩
     case measure=>simp [intOf]; omega
    | false=>
     have hpt:=Lib.hid (fun D' hs hg=>hput.out rfl D' hs hg)
     clear hskip hput
     have hmI:(m:Int) < (l.length:Int):=by omega
     go_wp2_with (first | (refine wpList_load_v rfl 125 _ rfl ⟨wr.heap.size,0,none⟩ rfl _ hl2.out ?_) |
      (refine wpList_store_part rfl 125 _ _ rfl rfl g (m * 2) rfl D #[.int .i64 r,.int .i64 q] 125 hB5.out rfl (by simp; omega) (by simp [Value.oneCell']) (by kernel_rfl) ?_; intro w6 D6 hB6 hm6 hs6 hg6))
     have hm7:=hm5.out.trans hm6
     have hd6:=Lib.hid (hpt.out D6 hs6 hg6)
     clear hpt hg6 hm6 hm5 hB5 hl2
     go_wp2_with fail
     go_roundw
     case rel=>exact ⟨j + 1,m + 1,D6,by omega,by simp,by simp,hd6,hB6,hm7⟩
     case measure=>simp [intOf]; omega
   ·obtain rfl:j = l.length:=by omega
    obtain ⟨_,h1,_,h3,_⟩:=hD.out
    rw [List.take_length,hRe.out] at h1 h3
    obtain ⟨w6,D6,hrun,hB6,hm6,hg6⟩:=run_clearS (o:=m * 2) (n:=l.length - m) (c:=c - m) hB (by omega) 0
    have hR6:StR D6 R:=fun k s hs=>by
     obtain ⟨g1,g2⟩:=h3 k s hs
     have hk:=(List.getElem?_eq_some_iff.1 hs).1
     exact ⟨by rw [hg6 _ (by omega)]; exact g1,by rw [hg6 _ (by omega)]; exact g2⟩
    have hm7:=hm.trans hm6
    have hml:m≤l.length:=by omega
    replace hrun:=Lib.hid hrun
    replace h1:=Lib.hid h1
    clear h3 hg6 hm6 hD hRe hkl
    have h00:(0:Int)≤(m:Int):=by omega
    have hmI:(m:Int)≤(l.length:Int):=by omega
    have hmc:(m:Int)≤(c:Int):=by omega
    go_wp2_with (first | (refine wpList_v rfl (.slice (some ⟨g,m * 2,none⟩) (l.length - m) (c - m)) ((run_sll rfl rfl rfl (by omega)).trans (by unfold slB; rw [if_neg (by omega),Option.map_some,add0])) ?_) |
     (refine wpList_vw rfl (.tuple #[]) (exec_clearS rfl rfl hrun.out) ?_) |
     (refine wpList_v rfl (.slice (some ⟨g,0,none⟩) m c) (run_slS ⟨by omega,hc.1,hc.2⟩ rfl rfl rfl) ?_))
    rw [h1.out]
    go_ret
    exact ⟨rfl,hm7,D6,hB6,hR6⟩
theorem without1_calls (b:Nat) (r k req:Int) (w:World) (h:w.cell? ⟨b,0,none⟩ = some (.int .i64 req)):
  Calls Tryz.prog 58 #[.agg #[.int .i64 r,.int .i64 k],.pointer (some ⟨b,0,none⟩)] w fun e w'=>e = .returned (.bool (r == req))∧Below w.heap.size w w':=by
 have hb:=new_below w (.cells #[.int .i64 r,.int .i64 k] 125)
 have hB:=Blk.new w #[.int .i64 r,.int .i64 k] 125
 have h1:=hB.cell (i:=0) rfl
 have h2:=cellA (.cells #[.int .i64 r,.int .i64 k] 125) h
 clear hB
 go_enter Tryz.func58,Tryz.ntmps58
 go_wp2
 go_ret
 exact ⟨rfl,hb⟩
def WoPostN (w:World) (l:List (Int × Int)) (req:Int) (e:Ending) (w':World):Prop:=
 Below w.heap.size w w'∧∃ q d,e = .returned (.slice q (woP l req).length d)∧((woP l req).length≤d∧d≤9223372036854775807)∧Els w' q 2 ((woP l req).map stV)∧(woP l req ≠ []→∀ a,q = some a→w.heap.size≤a.block)
theorem keep_wo (l:List (Int × Int)) (req:Int):keepL (fun s=>s.1 == req) l = woP l req:=rfl
theorem pwithoutN_calls (p:Option Addr) (c:Nat) (l:List (Int × Int)) (req:Int) (w:World) (hE:Els w p 2 (l.map stV)) (hl:l.length≤1000):
  Calls Tryz.prog 35 #[.slice p l.length c,.int .i64 req] w (WoPostN w l req):=by
 have hcl:=Lib.hid (fun wx (h:Below w.heap.size w wx)=>clone_calls p c l wx (hE.below h) hl)
 have hwl:=woP_len l req
 unfold WoPostN
 obtain ⟨R,hRe⟩:∃ R,woP l req = R:=⟨_,rfl⟩
 rw [hRe] at hwl ⊢
 replace hRe:=Lib.hid hRe
 clear hE
 go_enter Tryz.func35,Tryz.ntmps35
 go_upto_region 1 with fail
 refine wp_world' (fun wx=>Blk wx w.heap.size #[.int .i64 req] 3∧Below w.heap.size w wx) ⟨Blk.new _ _ _,new_below _ _⟩ ?_
 rintro w1 ⟨hB,hb⟩
 have hc1:=Lib.hid (hcl.out w1 hb)
 have hgt:=hB.lt
 have hlw:=hb.size
 replace hB:=Lib.hid hB
 clear hcl
 go_wp2_with fail
 refine hc1.out.mono ?_
 rintro e w2 ⟨hb2,q,d,rfl,hd,hE2,hown⟩
 have hB2:=hB.out.mod ((Mod.refl (fun _=>False) _).after hb2) (fun h=>h)
 have hb3:=hb.trans (hb2.mono hb.size)
 clear hc1 hB hb
 by_cases h0:0 < l.length
 ·obtain ⟨g,C,rfl,hg,hBg,hR⟩:=hown h0
  have hne:w.heap.size ≠ g:=by omega
  have hdel:=Lib.hid (delF_calls g d C l 58 #[.pointer (some ⟨w.heap.size,0,none⟩)] (fun s=>s.1 == req) w2 hBg hR h0 hl hd (enters_of Tryz.func58 (by kernel_rfl) rfl)
   (fun r _ wx hm=>without1_calls w.heap.size r.1 r.2 req wx ((hB2.mod hm hne).cell (i:=0) rfl)))
  rw [keep_wo,hRe.out] at hdel
  have hwd:R.length≤d∧d≤9223372036854775807:=⟨Nat.le_trans hwl hd.1,hd.2⟩
  replace hb3:=Lib.hid hb3
  clear hB2 hE2 hown hBg hR hRe
  go_wp2_with fail
  refine hdel.out.mono ?_
  rintro e w4 ⟨rfl,hm4,D4,hB4,hR4⟩
  have hb4:=hb3.out.trans (hm4.below hb3.out.size (fun k hk=>by have:k = g:=hk; omega))
  have hE4:=stR_els hR4 hB4 (by omega)
  clear hdel hm4
  go_wp2_with fail
  go_ret
  exact ⟨hb4,_,d,rfl,hwd,hE4,fun _ a ha=>(by cases ha; exact Nat.le_trans hlw hg)⟩
 ·have hl0:l = []:=List.length_eq_zero_iff.1 (by omega)
  subst hl0
  obtain rfl:R = []:=hRe.out.symm
  clear hRe
  have hif:=Lib.hid (indexF_stop q d [] 58 #[.pointer (some ⟨w.heap.size,0,none⟩)] (fun s=>s.1 == req) w2 hE2 (enters_of Tryz.func58 (by kernel_rfl) rfl) (fun r hr=>by cases hr))
  have hdel:Hid (Calls Tryz.prog 56 #[.slice q 0 d,.func (.func 58) #[] #[.pointer (some ⟨w.heap.size,0,none⟩)]] w2 fun e w'=>e = .returned (.slice q 0 d)∧Below w2.heap.size w2 w'):=Lib.hid (by
   clear hown hE2
   go_enter Tryz.func56,Tryz.ntmps56
   go_wp2_with fail
   refine hif.out.mono ?_
   rintro e w3 ⟨rfl,hb3⟩
   clear hif
   go_wp2_with fail
   go_ret
   exact ⟨rfl,hb3⟩)
  replace hE2:=Lib.hid hE2
  clear hif hown
  go_wp2_with fail
  refine hdel.out.mono ?_
  rintro e w4 ⟨rfl,hb4⟩
  have hE4:=hE2.out.below hb4
  have hb5:=hb3.trans (hb4.mono hb3.size)
  clear hdel
  go_wp2_with fail
  go_ret
  exact ⟨hb5,q,d,rfl,⟨Nat.zero_le _,hd.2⟩,hE4,fun h=>absurd rfl h⟩
end
section
section
open Go.RowKit
abbrev Rou2:=List (Int × Int)
def ve0:Ve:=fun _=>0
def bestV (v:Ve) (l:Rou2) (t:List Rq) (req:Int):Wy × Int:=bestP (v 0) (v 1) (v 2) (v 3) (v 4) l t req
def cputV (v:Ve) (l:Rou2) (t:List Rq) (req:Int):Rou2 × Int × Int:=cputP (v 0) (v 1) (v 2) (v 3) (v 4) l t req
def timV (v:Ve) (l:Rou2) (t:List Rq):Tms × Int × Int:=tmP (v 0) (v 1) (v 2) (v 3) (v 4) l t
def RightV (v:Ve) (l:Rou2) (t:List Rq):Prop:=RightP (v 0) (v 1) (v 2) (v 3) (v 4) l t
def vehV (v:Ve):Int:=vehCode (v 0) (v 1) (v 2) (v 3) (v 4)
def whereP (rows:List Rou2) (req:Int):Int:=fstI (fun l=>l.any (fun s=>s.1 == req)) rows
theorem fstI_ge {α:Type} (P:α→Bool) (l:List α):-1≤fstI P l∧fstI P l < l.length:=by
 unfold fstI
 cases h:l.findIdx? P with
 | none=>dsimp only; omega
 | some k=>
  have:=(List.findIdx?_eq_some_iff_getElem.1 h).1
  dsimp only
  omega
theorem where_some {rows:List Rou2} {req:Int} (h:0≤whereP rows req):∃ (i:Nat) (hi:i < rows.length),whereP rows req = i∧∃ s ∈ rows[i],s.1 = req:=by
 unfold whereP fstI at h ⊢
 cases hf:rows.findIdx? (fun l=>l.any (fun s=>s.1 == req)) with
 | none=>rw [hf] at h; dsimp only at h; omega
 | some k=>
  obtain ⟨hk,h1,_⟩:=List.findIdx?_eq_some_iff_getElem.1 hf
  obtain ⟨s,hs,e⟩:=List.any_eq_true.1 h1
  exact ⟨k,hk,rfl,s,hs,by simpa using e⟩
theorem where_none {rows:List Rou2} {req:Int} (h:whereP rows req < 0):∀ l ∈ rows,∀ s ∈ l,s.1 ≠ req:=by
 unfold whereP fstI at h
 cases hf:rows.findIdx? (fun l=>l.any (fun s=>s.1 == req)) with
 | none=>
  intro l hl s hs e
  have:=List.findIdx?_eq_none_iff.1 hf l hl
  rw [List.any_eq_false] at this
  exact this s hs (by simpa using e)
 | some k=>rw [hf] at h; dsimp only at h; omega
def prcK (fl:List Ve) (rows:List Rou2) (t:List Rq) (req:Int):Nat→Option (Nat × Int)
 | 0=>none
 | k + 1=>if (bestV (fl.getD k ve0) (rows.getD k []) t req).2 ≠ 0 then prcK fl rows t req k else
   match prcK fl rows t req k with
   | none=>some (k,(bestV (fl.getD k ve0) (rows.getD k []) t req).1.2.2)
   | some p=>if p.2≤(bestV (fl.getD k ve0) (rows.getD k []) t req).1.2.2 then some p else some (k,(bestV (fl.getD k ve0) (rows.getD k []) t req).1.2.2)
theorem prcK_lt (fl:List Ve) (rows:List Rou2) (t:List Rq) (req:Int):∀ (k:Nat) (p:Nat × Int),prcK fl rows t req k = some p→p.1 < k∧(bestV (fl.getD p.1 ve0) (rows.getD p.1 []) t req).2 = 0∧p.2 = (bestV (fl.getD p.1 ve0) (rows.getD p.1 []) t req).1.2.2
 | 0,p,h=>by cases h
 | k + 1,p,h=>by
  unfold prcK at h
  by_cases h1:(bestV (fl.getD k ve0) (rows.getD k []) t req).2 ≠ 0
  ·rw [if_pos h1] at h
   have:=prcK_lt fl rows t req k p h
   exact ⟨by omega,this.2⟩
  ·rw [if_neg h1] at h
   cases hq:prcK fl rows t req k with
   | none=>rw [hq] at h; cases h; exact ⟨by dsimp only; omega,by dsimp only; omega,rfl⟩
   | some q=>
    rw [hq] at h
    dsimp only at h
    by_cases h2:q.2≤(bestV (fl.getD k ve0) (rows.getD k []) t req).1.2.2
    ·rw [if_pos h2] at h
     have e:=Option.some.inj h
     have:=prcK_lt fl rows t req k q hq
     rw [← e]
     exact ⟨by omega,this.2⟩
    ·rw [if_neg h2] at h; cases h; exact ⟨by dsimp only; omega,by dsimp only; omega,rfl⟩
def prcP (fl:List Ve) (rows:List Rou2) (t:List Rq) (req:Int):Int × Int × Int:=
 if req < 0∨(t.length:Int)≤req then (0,0,8)
 else if 0≤whereP rows req then (0,0,13)
 else match prcK fl rows t req fl.length with
  | none=>(0,0,12)
  | some p=>((p.1:Int),p.2,0)
def pputP (fl:List Ve) (rows:List Rou2) (t:List Rq) (req:Int):List Rou2 × Int × Int:=
 if (prcP fl rows t req).2.2 ≠ 0 then (rows,0,(prcP fl rows t req).2.2)
 else (rows.set (prcP fl rows t req).1.toNat (cputV (fl.getD (prcP fl rows t req).1.toNat ve0) (rows.getD (prcP fl rows t req).1.toNat []) t req).1,
  (cputV (fl.getD (prcP fl rows t req).1.toNat ve0) (rows.getD (prcP fl rows t req).1.toNat []) t req).2)
def ptakP (rows:List Rou2) (req:Int):List Rou2 × Int:=
 if whereP rows req < 0 then (rows,12) else (rows.set (whereP rows req).toNat (woP (rows.getD (whereP rows req).toNat []) req),0)
def totV (v:Ve) (l:Rou2) (t:List Rq):Int:=(timV v l t).2.1 - v 3
def totK (fl:List Ve) (rows:List Rou2) (t:List Rq):Nat→Int
 | 0=>0
 | k + 1=>totK fl rows t k + totV (fl.getD k ve0) (rows.getD k []) t
def totP (fl:List Ve) (rows:List Rou2) (t:List Rq):Int:=totK fl rows t fl.length
def allQ (rows:List Rou2) (t:List Rq):List Int:=((List.range t.length).map (fun i:Nat=>(i:Int))).filter fun r=>decide (0≤whereP rows r)
structure PlnOk (fl:List Ve) (rows:List Rou2) (t:List Rq):Prop where
 len:rows.length = fl.length
 many:1≤fl.length∧fl.length≤4
 veh:∀ v ∈ fl,vehV v = 0
 req:∀ q ∈ t,rqE q = 0
 right:∀ (i:Nat),i < fl.length→RightV (fl.getD i ve0) (rows.getD i []) t
 one:∀ (i j:Nat) (s s':Int × Int),s ∈ rows.getD i []→s' ∈ rows.getD j []→s.1 = s'.1→i = j
end
section
open Go.RowKit
theorem told_okQ {l:List (Int × Int)} {t:List Rq} (hR:Rou l) (hl:l.length≤16) (ht:∀ q ∈ t,rqE q = 0) (hs:∀ s ∈ l,0≤s.1∧s.1 < (t.length:Int)):toldP l t = 0:=by
 unfold toldP
 rw [if_neg (by rw [(route_iff l).2 ⟨hl,hR⟩]; simp)]
 rw [if_neg (by
  simp only [List.any_eq_true,decide_eq_true_eq,not_exists,not_and]
  intro s h
  have:=hs s h
  omega)]
 rw [if_neg (by
  simp only [List.any_eq_true,not_exists,not_and]
  intro s h
  have:=hs s h
  have hn:s.1.toNat < t.length:=by omega
  rw [getD_at t hn,ht _ (List.getElem_mem hn)]
  simp)]
theorem prs_mem {n:Nat} (hn:n≤16) (p:Int × Int):p ∈ prs n↔∃ i j:Nat,i≤j∧j≤n∧p = ((i:Int),(j:Int)):=by
 unfold prs
 rw [if_neg (by omega),show ((n:Int) + 1).toNat = n + 1 by omega]
 unfold prsI
 rw [List.mem_flatMap]
 constructor
 ·rintro ⟨i,hi,h⟩
  unfold rowP at h
  obtain ⟨k,hk,rfl⟩:=List.mem_map.1 h
  have h1:=List.mem_range.1 hi
  have h2:=List.mem_range.1 hk
  exact ⟨i,i + k,by omega,by omega,rfl⟩
 ·rintro ⟨i,j,hij,hj,rfl⟩
  refine ⟨i,List.mem_range.2 (by omega),?_⟩
  unfold rowP
  refine List.mem_map.2 ⟨j - i,List.mem_range.2 (by omega),?_⟩
  rw [show i + (j - i) = j by omega]
theorem wys_mem {x y cp st en:Int} {l:List (Int × Int)} {t:List Rq} {req:Int} {ps:List (Int × Int)} {u:Wy}:
  u ∈ wysP x y cp st en l t req ps↔∃ p ∈ ps,(riseP x y cp st en l t req p.1 p.2).2 = 0∧u = (p.1,p.2,(riseP x y cp st en l t req p.1 p.2).1):=by
 unfold wysP
 rw [List.mem_flatMap]
 constructor
 ·rintro ⟨p,hp,h⟩
  unfold wyOf at h
  by_cases h0:(riseP x y cp st en l t req p.1 p.2).2 = 0
  ·rw [if_pos h0] at h
   exact ⟨p,hp,h0,by simpa using h⟩
  ·rw [if_neg h0] at h
   cases h
 ·rintro ⟨p,hp,h0,rfl⟩
  exact ⟨p,hp,by unfold wyOf; rw [if_pos h0]; exact List.mem_cons_self⟩
theorem lstW_le:∀ (r:List Wy) (b:Wy),(lstW b r).2.2≤b.2.2∧∀ u ∈ r,(lstW b r).2.2≤u.2.2
 | [],b=>⟨Int.le_refl _,fun u h=>by cases h⟩
 | y :: r,b=>by
  show (lstW (if y.2.2 < b.2.2 then y else b) r).2.2≤b.2.2∧∀ u ∈ y :: r,(lstW (if y.2.2 < b.2.2 then y else b) r).2.2≤u.2.2
  obtain ⟨h1,h2⟩:=lstW_le r (if y.2.2 < b.2.2 then y else b)
  have h3:(if y.2.2 < b.2.2 then y else b).2.2≤b.2.2∧(if y.2.2 < b.2.2 then y else b).2.2≤y.2.2:=by
   split <;> constructor <;> omega
  refine ⟨by omega,fun u hu=>?_⟩
  rcases List.mem_cons.1 hu with rfl | hu
  ·omega
  ·exact h2 u hu
theorem rou_withL {l:List (Int × Int)} (h:Rou l) {req:Int} (hr:0≤req) (hn:∀ s ∈ l,s.1 ≠ req) {i j:Nat} (hij:i≤j) (hj:j≤l.length):Rou (withL l req i j):=by
 rw [withL_ins l req hij hj]
 exact rou_ins h hr hn (by omega) (by omega)
theorem withL_in {l:List (Int × Int)} {req:Int} {i j:Nat} (hij:i≤j) (hj:j≤l.length) {s:Int × Int}:s ∈ withL l req i j↔s = (req,0)∨s = (req,1)∨s ∈ l:=by
 rw [withL_ins l req hij hj,insS_mem,insS_mem]
 constructor
 ·rintro (h | h | h)
  ·exact .inr (.inl h)
  ·exact .inl h
  ·exact .inr (.inr h)
 ·rintro (h | h | h)
  ·exact .inr (.inl h)
  ·exact .inl h
  ·exact .inr (.inr h)
theorem wr_zero {x y cp st en:Int} {l:List (Int × Int)} {t:List Rq} (hv:vehCode x y cp st en = 0) (ht:∀ q ∈ t,rqE q = 0) (hl:l.length≤16) (hR:Rou l) (hT:∀ s ∈ l,s.1 < t.length):wrP x y cp st en l t = 0:=by
 have hc:chkP l = 0:=(route_iff l).2 ⟨hl,hR⟩
 unfold wrP
 rw [if_neg (by omega),if_neg (by simpa using ht),if_neg (by omega),if_neg]
 simp only [Bool.not_eq_true,List.any_eq_false,Bool.not_eq_eq_eq_not]
 intro s hs
 have h1:=rou_mem hR hs
 have h2:=hT s hs
 unfold ptB ptOf
 rw [if_neg (by omega)]
 rcases h1.2.1 with e | e
 ·rw [if_pos e]; simp
 ·rw [if_neg (by omega),if_pos e]; simp
theorem rise_code {x y cp st en:Int} {l:List (Int × Int)} {t:List Rq} {req:Int} {i j:Nat} (hij:i≤j) (hj:j≤l.length) (hr:0≤req∧req < t.length) (hn:∀ s ∈ l,s.1 ≠ req) (hl:l.length≤14) (h:RightP x y cp st en l t):
  (riseP x y cp st en l t req i j).2 = 0∨(riseP x y cp st en l t req i j).2 = 10∨(riseP x y cp st en l t req i j).2 = 9:=by
 have h0:=((right_iff x y cp st en l t).1 h).1
 have hp:=putP_right (x:=x) (y:=y) (cp:=cp) (st:=st) (en:=en) hij hj hr hn hl h0
 obtain ⟨hv,ht,_,hR,hT,_,_⟩:=h
 have hR':=rou_withL hR hr.1 hn hij hj
 have hl':(withL l req i j).length≤16:=by rw [withL_len l req hij hj]; omega
 have hT':∀ s ∈ withL l req i j,0≤s.1∧s.1 < (t.length:Int):=fun s hs=>by
  rcases (withL_in hij hj).1 hs with rfl | rfl | hs
  ·exact hr
  ·exact hr
  ·exact ⟨(rou_mem hR hs).1,hT s hs⟩
 have hto:=told_okQ hR' hl' ht hT'
 have hw:=wr_zero (x:=x) (y:=y) (cp:=cp) (st:=st) (en:=en) hv ht hl' hR' (fun s hs=>(hT' s hs).2)
 unfold riseP
 rw [hp]
 dsimp only
 rw [if_neg (by simp)]
 generalize withL l req i j = m at *
 have hf:(fitP x y cp st en m t).2 = 0∨(fitP x y cp st en m t).2 = 10:=by
  unfold fitP
  rw [if_neg (by omega),if_neg (by omega)]
  split <;> simp
 have htm:(tmP x y cp st en m t).2.2 = 0∨(tmP x y cp st en m t).2.2 = 9:=by
  unfold tmP
  rw [if_neg (by omega)]
  split
  ·simp
  ·split <;> simp
 by_cases h1:(fitP x y cp st en m t).2 ≠ 0
 ·rw [if_pos h1]
  dsimp only
  omega
 ·rw [if_neg h1]
  by_cases h2:(tmP x y cp st en m t).2.2 ≠ 0
  ·rw [if_pos h2]
   dsimp only
   omega
  ·rw [if_neg h2]
   exact .inl rfl
def riseV (v:Ve) (l:Rou2) (t:List Rq) (req:Int) (i j:Nat):Int:=(timV v (withL l req i j) t).2.1 - (timV v l t).2.1
theorem best_ok {v:Ve} {l:Rou2} {t:List Rq} {req:Int} (hR:RightV v l t) (hr:0≤req∧req < t.length) (hn:∀ s ∈ l,s.1 ≠ req) (h:(bestV v l t req).2 = 0):
  ∃ i j:Nat,i≤j∧j≤l.length∧l.length≤14∧RightV v (withL l req i j) t∧(bestV v l t req).1 = ((i:Int),(j:Int),riseV v l t req i j)∧0≤riseV v l t req i j∧
   ∀ i' j':Nat,i'≤j'→j'≤l.length→RightV v (withL l req i' j') t→riseV v l t req i j≤riseV v l t req i' j':=by
 have hl16:=hR.2.2.1
 unfold bestV bestP allP at h ⊢
 by_cases hc:(riseP (v 0) (v 1) (v 2) (v 3) (v 4) l t req 0 0).2 = 0∨(riseP (v 0) (v 1) (v 2) (v 3) (v 4) l t req 0 0).2 = 10∨(riseP (v 0) (v 1) (v 2) (v 3) (v 4) l t req 0 0).2 = 9
 ·rw [if_pos hc] at h ⊢
  dsimp only at h ⊢
  rw [if_neg (by simp)] at h ⊢
  cases hw:wysP (v 0) (v 1) (v 2) (v 3) (v 4) l t req (prs l.length) with
  | nil=>rw [hw] at h; cases h
  | cons b r=>
   dsimp only
   have hmem:lstW b r ∈ wysP (v 0) (v 1) (v 2) (v 3) (v 4) l t req (prs l.length):=by
    rw [hw]
    rcases lstW_mem r b with e | e
    ·rw [e]; exact List.mem_cons_self
    ·exact List.mem_cons_of_mem _ e
   obtain ⟨p,hp,h0,e⟩:=wys_mem.1 hmem
   obtain ⟨i,j,hij,hj,rfl⟩:=(prs_mem hl16 p).1 hp
   dsimp only at h0 e
   have hl14:l.length≤14:=by
    by_cases hh:l.length≤14
    ·exact hh
    ·exfalso
     have hz:=((right_iff _ _ _ _ _ l t).1 hR).1
     have hp:putP (v 0) (v 1) (v 2) (v 3) (v 4) l t req i j = ([],0,11):=by
      unfold putP
      rw [if_neg (c:=req < 0∨_) (by
       simp only [not_or,List.any_eq_true,not_exists,not_and]
       exact ⟨by omega,by omega,fun s hs e=>hn s hs (by simpa using e)⟩),if_neg (fun h=>h hz),if_pos (by omega)]
     unfold riseP at h0
     rw [hp] at h0
     simp at h0
   have hRw:RightV v (withL l req i j) t:=Classical.byContradiction fun hh=>(rise_wrong hij hj hr hn hl14 hh).2 h0
   obtain ⟨_,e2,e3⟩:=rise_right hij hj hr hn hl14 hRw
   have e4:(riseP (v 0) (v 1) (v 2) (v 3) (v 4) l t req i j).1 = riseV v l t req i j:=by rw [e2]; rfl
   rw [e4] at e
   refine ⟨i,j,hij,hj,hl14,hRw,e,e3,fun i' j' hij' hj' hR'=>?_⟩
   obtain ⟨_,e5,_⟩:=rise_right hij' hj' hr hn hl14 hR'
   have hm':((i':Int),(j':Int),riseV v l t req i' j') ∈ wysP (v 0) (v 1) (v 2) (v 3) (v 4) l t req (prs l.length):=
    wys_mem.2 ⟨((i':Int),(j':Int)),(prs_mem hl16 _).2 ⟨i',j',hij',hj',rfl⟩,by rw [e5],by rw [e5]; rfl⟩
   rw [hw] at hm'
   have hle:=lstW_le r b
   rw [e] at hle
   rcases List.mem_cons.1 hm' with h5 | h5
   ·rw [← h5] at hle
    exact hle.1
   ·exact hle.2 _ h5
 ·rw [if_neg hc] at h
  dsimp only at h
  exfalso
  have hh:(riseP (v 0) (v 1) (v 2) (v 3) (v 4) l t req 0 0).2 ≠ 0:=fun e=>hc (.inl e)
  rw [if_pos hh] at h
  exact hh h
end
section
open Go.RowKit
theorem getD_setS {α:Type} (l:List α) (i j:Nat) (a d:α):(l.set i a).getD j d = if i = j∧i < l.length then a else l.getD j d:=by
 rw [List.getD_eq_getElem?_getD,List.getD_eq_getElem?_getD,List.getElem?_set]
 by_cases h:i = j
 ·subst h
  by_cases h2:i < l.length
  ·simp [h2]
  ·simp [h2]
 ·simp [h]
theorem mem_getD {α:Type} {l:List α} {i:Nat} {d:α} (h:i < l.length):l.getD i d ∈ l:=by
 rw [List.getD_eq_getElem?_getD,List.getElem?_eq_getElem h]
 exact List.getElem_mem h
theorem nil_getD {l:List Rou2} {i:Nat} {s:Int × Int} (h:s ∈ l.getD i []):i < l.length:=by
 by_cases hi:i < l.length
 ·exact hi
 ·rw [List.getD_eq_getElem?_getD,List.getElem?_eq_none (by omega)] at h
  cases h
theorem PlnOk.turn {fl:List Ve} {rows:List Rou2} {t:List Rq} (h:PlnOk fl rows t) {i:Nat} (hi:i < fl.length) {l:Rou2} (hl:RightV (fl.getD i ve0) l t)
  (hs:∀ s ∈ l,s ∈ rows.getD i []∨∀ (j:Nat) (s':Int × Int),s' ∈ rows.getD j []→s'.1 ≠ s.1):PlnOk fl (rows.set i l) t:=by
 have hir:i < rows.length:=by rw [h.len]; exact hi
 refine ⟨by rw [List.length_set]; exact h.len,h.many,h.veh,h.req,fun j hj=>?_,fun j k s s' h1 h2 e=>?_⟩
 ·rw [getD_setS]
  by_cases e:i = j
  ·subst e; rw [if_pos ⟨rfl,hir⟩]; exact hl
  ·rw [if_neg (fun x=>e x.1)]; exact h.right j hj
 ·rw [getD_setS] at h1 h2
  by_cases e1:i = j
  ·subst e1
   rw [if_pos ⟨rfl,hir⟩] at h1
   by_cases e2:i = k
   ·exact e2
   ·rw [if_neg (fun x=>e2 x.1)] at h2
    rcases hs s h1 with h3 | h3
    ·exact h.one i k s s' h3 h2 e
    ·exact absurd e.symm (h3 k s' h2)
  ·rw [if_neg (fun x=>e1 x.1)] at h1
   by_cases e2:i = k
   ·subst e2
    rw [if_pos ⟨rfl,hir⟩] at h2
    rcases hs s' h2 with h3 | h3
    ·exact h.one j i s s' h1 h3 e
    ·exact absurd e (h3 j s h1)
   ·rw [if_neg (fun x=>e2 x.1)] at h2
    exact h.one j k s s' h1 h2 e
theorem where_getD {rows:List Rou2} {req:Int} (h:whereP rows req < 0) {i:Nat} {s:Int × Int} (hs:s ∈ rows.getD i []):s.1 ≠ req:=
 where_none h _ (mem_getD (nil_getD hs)) s hs
theorem prc_ok {fl:List Ve} {rows:List Rou2} {t:List Rq} {req:Int} (h:(prcP fl rows t req).2.2 = 0):∃ (i:Nat),i < fl.length∧(0≤req∧req < t.length)∧whereP rows req < 0∧
  (bestV (fl.getD i ve0) (rows.getD i []) t req).2 = 0∧prcP fl rows t req = ((i:Int),(bestV (fl.getD i ve0) (rows.getD i []) t req).1.2.2,0):=by
 unfold prcP at h ⊢
 by_cases h1:req < 0∨(t.length:Int)≤req
 ·rw [if_pos h1] at h; cases h
 rw [if_neg h1] at h ⊢
 by_cases h2:0≤whereP rows req
 ·rw [if_pos h2] at h; cases h
 rw [if_neg h2] at h ⊢
 cases hk:prcK fl rows t req fl.length with
 | none=>rw [hk] at h; cases h
 | some p=>
  have:=prcK_lt fl rows t req _ p hk
  refine ⟨p.1,this.1,by omega,by omega,this.2.1,?_⟩
  dsimp only
  rw [this.2.2]
theorem put_ok {fl:List Ve} {rows:List Rou2} {t:List Rq} {req:Int} (hP:PlnOk fl rows t) (h:(prcP fl rows t req).2.2 = 0):∃ (i a b:Nat),i < fl.length∧a≤b∧b≤(rows.getD i []).length∧(rows.getD i []).length≤14∧
  (0≤req∧req < t.length)∧whereP rows req < 0∧RightV (fl.getD i ve0) (withL (rows.getD i []) req a b) t∧0≤riseV (fl.getD i ve0) (rows.getD i []) t req a b∧
  (cputV (fl.getD i ve0) (rows.getD i []) t req) = (withL (rows.getD i []) req a b,riseV (fl.getD i ve0) (rows.getD i []) t req a b,0)∧
  prcP fl rows t req = ((i:Int),riseV (fl.getD i ve0) (rows.getD i []) t req a b,0)∧
  pputP fl rows t req = (rows.set i (withL (rows.getD i []) req a b),riseV (fl.getD i ve0) (rows.getD i []) t req a b,0):=by
 obtain ⟨i,hi,hr,hw,hb,e⟩:=prc_ok h
 have hn:∀ s ∈ rows.getD i [],s.1 ≠ req:=fun s hs=>where_getD hw hs
 obtain ⟨a,b,hab,hbl,hl14,hR,e2,h0,_⟩:=best_ok (hP.right i hi) hr hn hb
 have hc:cputV (fl.getD i ve0) (rows.getD i []) t req = (withL (rows.getD i []) req a b,riseV (fl.getD i ve0) (rows.getD i []) t req a b,0):=by
  unfold cputV cputP
  unfold bestV at hb e2
  rw [if_neg (by omega),e2]
  dsimp only
  rw [withP_some hab hbl hr.1 hn hl14]
  rfl
 have e3:prcP fl rows t req = ((i:Int),riseV (fl.getD i ve0) (rows.getD i []) t req a b,0):=by rw [e,e2]
 refine ⟨i,a,b,hi,hab,hbl,hl14,hr,hw,hR,h0,hc,e3,?_⟩
 unfold pputP
 rw [e3]
 dsimp only
 rw [if_neg (by simp),Int.toNat_natCast,hc]
theorem put_no {fl:List Ve} {rows:List Rou2} {t:List Rq} {req:Int} (h:(prcP fl rows t req).2.2 ≠ 0):pputP fl rows t req = (rows,0,(prcP fl rows t req).2.2):=by
 unfold pputP
 rw [if_pos h]
theorem put_keeps {fl:List Ve} {rows:List Rou2} {t:List Rq} (hP:PlnOk fl rows t) (req:Int):PlnOk fl (pputP fl rows t req).1 t:=by
 by_cases h:(prcP fl rows t req).2.2 = 0
 ·obtain ⟨i,a,b,hi,hab,hbl,_,hr,hw,hR,_,_,_,e⟩:=put_ok hP h
  rw [e]
  refine hP.turn hi hR fun s hs=>?_
  rcases (withL_in hab hbl).1 hs with rfl | rfl | hs
  ·exact .inr fun j s' hs'=>where_getD hw hs'
  ·exact .inr fun j s' hs'=>where_getD hw hs'
  ·exact .inl hs
 ·rw [put_no h]
  exact hP
theorem take_keeps {fl:List Ve} {rows:List Rou2} {t:List Rq} (hP:PlnOk fl rows t) (req:Int):PlnOk fl (ptakP rows req).1 t:=by
 unfold ptakP
 by_cases h:whereP rows req < 0
 ·rw [if_pos h]; exact hP
 ·rw [if_neg h]
  obtain ⟨i,hi,e,_⟩:=where_some (by omega:0≤whereP rows req)
  rw [e,Int.toNat_natCast]
  exact hP.turn (by rw [← hP.len]; exact hi) (right_wo (hP.right i (by rw [← hP.len]; exact hi)) req).1 fun s hs=>.inl (woP_mem.1 hs).1
end
end
end Go.Proofs.YtkaoflndbcfodaaGreat
