/-
  The row 'DealNew': a pack of the texts Tr Lv, pruned to what the row uses.
-/
import Derived.Test.YtkaoflndbcfodaaGreatDealNewQ13
namespace Go.Proofs.YtkaoflndbcfodaaGreat
set_option maxHeartbeats 8000000
set_option maxRecDepth 100000
section
section
open Go.RowKit
def PreT (T:Nat) (l:List (Int × Int)):Prop:=∀ r,sub l r = []∨(0≤r∧r < T∧(sub l r = [(r,0)]∨sub l r = pd r))
theorem sum_split (f:Int × Int→Int) (r:Int):∀ l:List (Int × Int),(l.map f).sum = ((sub l r).map f).sum + ((woP l r).map f).sum
 | []=>rfl
 | s :: l=>by
  have ih:=sum_split f r l
  unfold sub woP at *
  by_cases e:s.1 = r
  ·simp [e,ih] <;> omega
  ·simp [e,ih] <;> omega
def RightP (x y cp st en:Int) (l:List (Int × Int)) (t:List Rq):Prop:=
 vehCode x y cp st en = 0∧(∀ q ∈ t,rqE q = 0)∧l.length≤16∧Rou l∧(∀ s ∈ l,s.1 < t.length)∧(∀ k,k < l.length→onK l t (k + 1)≤cp)∧∃ L ax ay now,tmRun t l x y st = some (L,ax,ay,now)∧now + dsP ax ay x y≤en
theorem pre_of_rou {T:Nat} {l:List (Int × Int)} (h:Rou l) (hT:∀ s ∈ l,s.1 < T):PreT T l:=fun r=>by
 rcases h r with h1 | ⟨h0,h1⟩
 ·exact .inl h1
 ·refine .inr ⟨h0,?_,.inr h1⟩
  have hm:(r,(0:Int)) ∈ sub l r:=by rw [h1]; simp [pd]
  exact hT _ (List.mem_filter.1 hm).1
theorem pre_mem {T:Nat} {l:List (Int × Int)} (h:PreT T l) {s:Int × Int} (hs:s ∈ l):0≤s.1∧s.1 < T∧(s.2 = 0∨s.2 = 1):=by
 have hm:s ∈ sub l s.1:=List.mem_filter.2 ⟨hs,by simp⟩
 rcases h s.1 with h1 | ⟨h0,hT,h1 | h1⟩
 ·rw [h1] at hm; simp at hm
 ·rw [h1] at hm
  simp at hm
  refine ⟨h0,hT,.inl ?_⟩
  rw [hm]
 ·rw [h1] at hm
  simp [pd] at hm
  refine ⟨h0,hT,?_⟩
  rcases hm with h2 | h2
  ·left; rw [h2]
  ·right; rw [h2]
theorem right_iff (x y cp st en:Int) (l:List (Int × Int)) (t:List Rq):RightP x y cp st en l t↔(tmP x y cp st en l t).2.2 = 0∧(fitP x y cp st en l t).2 = 0:=by
 constructor
 ·rintro ⟨hv,ht,hl,hR,hT,hk,L,ax,ay,now,h3,h4⟩
  have hc:chkP l = 0:=(route_iff l).2 ⟨hl,hR⟩
  have hw:wrP x y cp st en l t = 0:=by
   unfold wrP
   rw [if_neg (by omega),if_neg (by simpa using ht),if_neg (by omega),if_neg]
   simp only [Bool.not_eq_true,List.any_eq_false,Bool.not_eq_eq_eq_not]
   intro s hs
   have h1:=rou_mem hR hs
   have h2:=hT s hs
   unfold ptB ptOf
   rw [if_neg (by omega)]
   rcases h1.2.1 with e | e
   ·rw [if_pos e]; simp
   ·rw [if_neg (by omega),if_pos e]; simp
  have hto:toldP l t = 0:=by
   unfold toldP
   rw [if_neg (by omega),if_neg,if_neg]
   ·simp only [Bool.not_eq_true,List.any_eq_false,bne_iff_ne,ne_eq,Decidable.not_not]
    intro s hs
    have h1:=rou_mem hR hs
    have h2:=hT s hs
    have hn:s.1.toNat < t.length:=by omega
    rw [getD_at t hn]
    simpa using ht _ (List.getElem_mem hn)
   ·simp only [Bool.not_eq_true,List.any_eq_false,decide_eq_true_eq]
    intro s hs
    have:=hT s hs
    omega
  refine ⟨?_,?_⟩
  ·unfold tmP
   rw [if_neg (by omega),h3]
   simp only
   rw [if_neg (by omega)]
  ·unfold fitP
   rw [if_neg (by omega),if_neg (by omega),fullAt_none (fun j hj=>by have:=hk j hj; omega)]
 ·rintro ⟨h1,h2⟩
  unfold tmP at h1
  by_cases hw:wrP x y cp st en l t = 0
  ·rw [if_neg (by omega)] at h1
   obtain ⟨hv,ht,hc,hpt⟩:=wrP_zero hw
   obtain ⟨hl,hR⟩:=(route_iff l).1 hc
   have hT:∀ s ∈ l,s.1 < t.length:=fun s hs=>by
    obtain ⟨n,e,hn,_⟩:=pt_there (hpt s hs)
    omega
   unfold fitP at h2
   rw [if_neg (by omega)] at h2
   by_cases hto:toldP l t = 0
   ·rw [if_neg (by omega)] at h2
    cases hf:fullAt cp l t with
    | some k=>rw [hf] at h2; simp at h2
    | none=>
     have hk:∀ k,k < l.length→onK l t (k + 1)≤cp:=fun k hk=>by
      unfold fullAt at hf
      have:=List.find?_eq_none.1 hf k (by simpa using hk)
      simpa using this
     cases hr:tmRun t l x y st with
     | none=>rw [hr] at h1; simp at h1
     | some R=>
      obtain ⟨L,ax,ay,now⟩:=R
      rw [hr] at h1
      simp only at h1
      by_cases hlt:en < now + dsP ax ay x y
      ·rw [if_pos hlt] at h1; simp at h1
      ·exact ⟨hv,ht,hl,hR,hT,hk,L,ax,ay,now,hr,by omega⟩
   ·rw [if_pos hto] at h2
    exact absurd h2 hto
  ·rw [if_pos hw] at h1
   exact absurd h1 hw
end
section
open Go.RowKit
theorem ds_tri {x y u v a b:Int} (h1:plB x y = true) (h2:plB u v = true) (h3:plB a b = true):dsP x y a b≤dsP x y u v + dsP u v a b:=by
 unfold dsP
 simp only [h1,h2,h3]
 unfold ap1
 simp
 repeat' split
 all_goals omega
def noLater (ax ay now ax' ay' now':Int):Prop:=∀ u v,plB u v = true→now + dsP ax ay u v≤now' + dsP ax' ay' u v
theorem mx_mono {a b e:Int} (h:a≤b):mx a e≤mx b e:=by
 unfold mx
 split <;> split <;> omega
theorem mx_ge (a e:Int):a≤mx a e∧e≤mx a e:=by
 unfold mx
 split <;> omega
theorem noLater_more {ax ay now ax' ay' now' e u v s:Int} (h:noLater ax ay now ax' ay' now') (hp:plB u v = true) (hs:0≤s) (ha:plB ax' ay' = true):
  noLater ax ay now u v (mx (now' + dsP ax' ay' u v) e + s):=fun a b hab=>by
 have h1:=h a b hab
 have h2:=ds_tri ha hp hab
 have h3:=(mx_ge (now' + dsP ax' ay' u v) e).1
 omega
theorem rqE_pl {q:Rq} (h:rqE q = 0):plB (q 0) (q 1) = true∧plB (q 2) (q 3) = true:=by
 unfold rqE rqCode firstC at h
 cases h1:(plB (q 0) (q 1) && plB (q 2) (q 3)) <;> rw [h1] at h
 ·simp at h
 ·rwa [Bool.and_eq_true] at h1
theorem pt_pl {t:List Rq} (ht:∀ q ∈ t,rqE q = 0) {s:Int × Int} (h:ptB s t = true):plB (ptG s t).x (ptG s t).y = true∧0≤(ptG s t).s:=by
 unfold ptB at h
 unfold ptG
 unfold ptOf at h ⊢
 by_cases h1:s.1 < 0∨(t.length:Int)≤s.1
 ·rw [if_pos h1] at h; cases h
 ·rw [if_neg h1] at h ⊢
  have hn:s.1.toNat < t.length:=by omega
  have hq:=ht (t.getD s.1.toNat rqZ0) (by rw [getD_at t hn]; exact List.getElem_mem hn)
  have h2:=rqE_pl hq
  have h3:=(rqE_serve hq).1
  by_cases e:s.2 = 0
  ·rw [if_pos e]; exact ⟨h2.1,h3⟩
  ·rw [if_neg e] at h ⊢
   by_cases e1:s.2 = 1
   ·rw [if_pos e1]; exact ⟨h2.2,h3⟩
   ·rw [if_neg e1] at h; cases h
def Ste (req:Int):List (Int × Int)→Tms→Tms→Prop
 | [],a,b=>a = []∧b = []
 | s :: r,a,b=>∃ u b',b = u :: b'∧((s.1 = req∧Ste req r a b')∨(s.1 ≠ req∧∃ v a',a = v :: a'∧(v.2.1≤u.2.1∧v.2.2≤u.2.2)∧Ste req r a' b'))
theorem tm_wo {t:List Rq} (ht:∀ q ∈ t,rqE q = 0) (req:Int):∀ (m:List (Int × Int)) (ax ay now ax' ay' now':Int),noLater ax ay now ax' ay' now'→plB ax' ay' = true→(∀ s ∈ m,ptB s t = true)→
  ∀ b X' Y' N',tmRun t m ax' ay' now' = some (b,X',Y',N')→∃ a X Y N,tmRun t (woP m req) ax ay now = some (a,X,Y,N)∧noLater X Y N X' Y' N'∧Ste req m a b
 | [],ax,ay,now,ax',ay',now',hn,hp,_,b,X',Y',N',h=>by
  cases h
  exact ⟨[],ax,ay,now,rfl,hn,rfl,rfl⟩
 | s :: r,ax,ay,now,ax',ay',now',hn,hp,hs,b,X',Y',N',h=>by
  obtain ⟨hpl,hsv⟩:=pt_pl ht (hs s (by simp))
  rw [tmRun_cons] at h
  by_cases hw:waB (ptG s t).e (ptG s t).l (now' + dsP ax' ay' (ptG s t).x (ptG s t).y) = true
  ·rw [if_pos hw] at h
   obtain ⟨q,hq,he⟩:=Option.map_eq_some_iff.1 h
   obtain ⟨b',x1,y1,n1⟩:=q
   cases he
   have hwn:waN (ptG s t).e (ptG s t).l (now' + dsP ax' ay' (ptG s t).x (ptG s t).y) = mx (now' + dsP ax' ay' (ptG s t).x (ptG s t).y) (ptG s t).e:=by unfold waN; rw [if_pos hw]
   by_cases e:s.1 = req
   ·have ew:woP (s :: r) req = woP r req:=by unfold woP; simp [e]
    rw [ew]
    obtain ⟨a,X,Y,N,g1,g2,g3⟩:=tm_wo ht req r ax ay now _ _ _ (by rw [hwn]; exact noLater_more (e:=(ptG s t).e) hn hpl hsv hp) hpl (fun u hu=>hs u (by simp [hu])) b' X' Y' N' hq
    exact ⟨a,X,Y,N,g1,g2,_,_,rfl,.inl ⟨e,g3⟩⟩
   ·have ew:woP (s :: r) req = s :: woP r req:=by unfold woP; simp [e]
    rw [ew,tmRun_cons]
    have hle:=hn (ptG s t).x (ptG s t).y hpl
    have hm:=mx_mono (e:=(ptG s t).e) hle
    have hw2:waB (ptG s t).e (ptG s t).l (now + dsP ax ay (ptG s t).x (ptG s t).y) = true:=by
     unfold waB at hw ⊢
     rw [Bool.and_eq_true,decide_eq_true_eq] at hw ⊢
     exact ⟨hw.1,by omega⟩
    have hwn2:waN (ptG s t).e (ptG s t).l (now + dsP ax ay (ptG s t).x (ptG s t).y) = mx (now + dsP ax ay (ptG s t).x (ptG s t).y) (ptG s t).e:=by unfold waN; rw [if_pos hw2]
    rw [if_pos hw2]
    obtain ⟨a,X,Y,N,g1,g2,g3⟩:=tm_wo ht req r (ptG s t).x (ptG s t).y (waN (ptG s t).e (ptG s t).l (now + dsP ax ay (ptG s t).x (ptG s t).y) + (ptG s t).s) _ _ _ (by rw [hwn,hwn2]; exact fun u v _=>by omega) hpl (fun u hu=>hs u (by simp [hu])) b' X' Y' N' hq
    rw [g1]
    refine ⟨_,X,Y,N,rfl,g2,_,_,rfl,.inr ⟨e,_,_,rfl,⟨?_,?_⟩,g3⟩⟩
    ·show waN _ _ _≤waN _ _ _
     rw [hwn,hwn2]; exact hm
    ·show waN _ _ _ + _≤waN _ _ _ + _
     rw [hwn,hwn2]; omega
  ·rw [if_neg hw] at h; cases h
theorem ste_len {req:Int}:∀ {m:List (Int × Int)} {a b:Tms},Ste req m a b→a.length = (woP m req).length∧b.length = m.length
 | [],a,b,h=>by
  obtain ⟨rfl,rfl⟩:=h
  exact ⟨rfl,rfl⟩
 | s :: r,a,b,h=>by
  obtain ⟨u,b',rfl,⟨e,h⟩ | ⟨e,v,a',rfl,_,h⟩⟩:=h
  ·have:=ste_len h
   have ew:woP (s :: r) req = woP r req:=by unfold woP; simp [e]
   rw [ew]
   exact ⟨this.1,by simp [this.2]⟩
  ·have:=ste_len h
   have ew:woP (s :: r) req = s :: woP r req:=by unfold woP; simp [e]
   rw [ew]
   exact ⟨by simp [this.1],by simp [this.2]⟩
theorem woP_none {l:List (Int × Int)} {req:Int} (h:∀ s ∈ l,s.1 ≠ req):woP l req = l:=by
 unfold woP
 rw [List.filter_eq_self]
 intro s hs
 simpa using h s hs
theorem woP_append (a b:List (Int × Int)) (req:Int):woP (a ++ b) req = woP a req ++ woP b req:=List.filter_append _ _
theorem woP_withL {l:List (Int × Int)} {req:Int} (h:∀ s ∈ l,s.1 ≠ req) {i j:Nat} (hij:i≤j):woP (withL l req i j) req = l:=by
 have e1:∀ q,woP ((req,0) :: q) req = woP q req:=fun q=>by unfold woP; simp
 have e2:∀ q,woP ((req,1) :: q) req = woP q req:=fun q=>by unfold woP; simp
 unfold withL
 rw [woP_append,e1,woP_append,e2,woP_none (fun s hs=>h s (List.mem_of_mem_take hs)),woP_none (fun s hs=>h s (List.mem_of_mem_drop (List.mem_of_mem_take hs))),woP_none (fun s hs=>h s (List.mem_of_mem_drop hs))]
 rw [← List.append_assoc]
 have e:l.take i ++ (l.drop i).take (j - i) = l.take j:=by
  have:=List.take_add (l:=l) (i:=i) (j:=j - i)
  rw [← this]
  congr 1
  omega
 rw [e,List.take_append_drop]
theorem sub_load {T:Nat} {l:List (Int × Int)} {t:List Rq} (hp:PreT T l) (r:Int) (hq:∀ s ∈ l,1≤t.getD s.1.toNat rqZ0 8):0≤((sub l r).map (sgL t)).sum:=by
 have e1:sgL t (r,0) = t.getD r.toNat rqZ0 8:=by unfold sgL; simp
 have e2:sgL t (r,1) = - t.getD r.toNat rqZ0 8:=by unfold sgL; simp
 rcases hp r with h | ⟨_,_,h | h⟩
 ·rw [h]; exact Int.le_refl _
 ·have hm:(r,(0:Int)) ∈ l:=by
   have:(r,(0:Int)) ∈ sub l r:=by rw [h]; simp
   exact (List.mem_filter.1 this).1
  have:=hq _ hm
  rw [h]
  simp only [List.map_cons,List.map_nil,List.sum_cons,List.sum_nil,e1]
  dsimp only at this
  omega
 ·rw [h]
  simp only [pd,List.map_cons,List.map_nil,List.sum_cons,List.sum_nil,e1,e2]
  omega
theorem wo_take (req:Int):∀ (m:List (Int × Int)) (k:Nat),k≤(woP m req).length→∃ n,n≤m.length∧woP (m.take n) req = (woP m req).take k
 | m,0,_=>⟨0,Nat.zero_le _,by simp [woP]⟩
 | [],k + 1,h=>by simp [woP] at h
 | s :: r,k + 1,h=>by
  by_cases e:s.1 = req
  ·have ew:∀ q,woP (s :: q) req = woP q req:=fun q=>by unfold woP; simp [e]
   rw [ew] at h ⊢
   obtain ⟨n,hn,h1⟩:=wo_take req r (k + 1) h
   exact ⟨n + 1,by simpa using hn,by rw [List.take_succ_cons,ew,h1]⟩
  ·have ew:∀ q,woP (s :: q) req = s :: woP q req:=fun q=>by unfold woP; simp [e]
   rw [ew] at h ⊢
   obtain ⟨n,hn,h1⟩:=wo_take req r k (by simpa using h)
   exact ⟨n + 1,by simpa using hn,by rw [List.take_succ_cons,List.take_succ_cons,ew,h1]⟩
theorem pre_take {T:Nat} {l:List (Int × Int)} (hR:Rou l) (hT:∀ s ∈ l,s.1 < T) (hl:l.length≤16) (n:Nat):PreT T (l.take n):=fun r=>by
 have hq:=okq_of ((route_iff l).2 ⟨hl,hR⟩)
 by_cases hn:n≤l.length
 ·rcases okq_sub hq r n hn with h | ⟨h0,h⟩
  ·exact .inl h
  ·refine .inr ⟨h0,?_,h⟩
   have hm:(r,(0:Int)) ∈ sub (l.take n) r:=by rcases h with h | h <;> rw [h] <;> simp [pd]
   exact hT _ (List.mem_of_mem_take (List.mem_filter.1 hm).1)
 ·rw [List.take_of_length_le (by omega)]
  exact pre_of_rou hR hT r
theorem onK_wo {t:List Rq} {l:List (Int × Int)} (ht:∀ q ∈ t,rqE q = 0) (hR:Rou l) (hT:∀ s ∈ l,s.1 < t.length) (hl:l.length≤16) (req:Int) {k:Nat} (hk:k≤(woP l req).length):∃ n,n≤l.length∧onK (woP l req) t k≤onK l t n:=by
 obtain ⟨n,hn,e⟩:=wo_take req l k hk
 refine ⟨n,hn,?_⟩
 unfold onK
 rw [← e,sum_split (sgL t) req (l.take n)]
 have hp:=pre_take hR hT hl n
 have:=sub_load (t:=t) hp req (fun s hs=>by
  have h1:=pre_mem hp hs
  have hn:s.1.toNat < t.length:=by omega
  rw [getD_at t hn]
  exact (rqE_all (ht _ (List.getElem_mem hn))).2.2.1.1)
 omega
theorem ptB_of {t:List Rq} {l:List (Int × Int)} (hR:Rou l) (hT:∀ s ∈ l,s.1 < t.length):∀ s ∈ l,ptB s t = true:=fun s hs=>by
 have h1:=rou_mem hR hs
 have h2:=hT s hs
 unfold ptB ptOf
 rw [if_neg (by omega)]
 rcases h1.2.1 with e | e
 ·rw [if_pos e]; rfl
 ·rw [if_neg (by omega),if_pos e]; rfl
theorem vehCode_pl {x y cp st en:Int} (h:vehCode x y cp st en = 0):plB x y = true:=by
 unfold vehCode firstV at h
 cases h1:plB x y <;> rw [h1] at h
 ·simp at h
theorem right_wo {x y cp st en:Int} {l:List (Int × Int)} {t:List Rq} (h:RightP x y cp st en l t) (req:Int):
  RightP x y cp st en (woP l req) t∧Ste req l (tmP x y cp st en (woP l req) t).1 (tmP x y cp st en l t).1∧(tmP x y cp st en (woP l req) t).2.1≤(tmP x y cp st en l t).2.1:=by
 have hz:=(right_iff x y cp st en l t).1 h
 obtain ⟨hv,ht,hl,hR,hT,hk,b,ax',ay',n',h3,h4⟩:=h
 have hvp:=vehCode_pl hv
 obtain ⟨a,ax,ay,n,g1,g2,g3⟩:=tm_wo ht req l x y st x y st (fun _ _ _=>Int.le_refl _) hvp (ptB_of hR hT) b ax' ay' n' h3
 have hle:=g2 x y hvp
 have hw:RightP x y cp st en (woP l req) t:=by
  refine ⟨hv,ht,Nat.le_trans (woP_len _ _) hl,rou_woP hR req,fun s hs=>hT s (woP_mem.1 hs).1,fun k hk'=>?_,a,ax,ay,n,g1,by omega⟩
  obtain ⟨m,hm,hle⟩:=onK_wo ht hR hT hl req (k:=k + 1) (by omega)
  cases m with
  | zero=>rw [onK_zero] at hle; have:=(vehCode_zero hv).1; omega
  | succ m=>have:=hk m (by omega); omega
 have hz2:=(right_iff x y cp st en _ t).1 hw
 have e1:tmP x y cp st en l t = (b,n' + dsP ax' ay' x y,0):=by
  have h1:=hz.1
  unfold tmP at h1 ⊢
  by_cases hwr:wrP x y cp st en l t = 0
  ·rw [if_neg (by omega),h3]
   simp only
   rw [if_neg (by omega)]
  ·rw [if_pos hwr] at h1; exact absurd h1 hwr
 have e2:tmP x y cp st en (woP l req) t = (a,n + dsP ax ay x y,0):=by
  have h1:=hz2.1
  unfold tmP at h1 ⊢
  by_cases hwr:wrP x y cp st en (woP l req) t = 0
  ·rw [if_neg (by omega),g1]
   simp only
   rw [if_neg (by omega)]
  ·rw [if_pos hwr] at h1; exact absurd h1 hwr
 rw [e1,e2]
 exact ⟨hw,g3,hle⟩
end
end
section
open Go.RowKit
def lvRun (t:List Rq):List (Int × Int)→Int→Int→Int→Int × Int × Int
 | [],ax,ay,now=>(ax,ay,now)
 | s :: r,ax,ay,now=>lvRun t r (gX s.2 (t.getD s.1.toNat rqZ0)) (gY s.2 (t.getD s.1.toNat rqZ0)) (gB s.2 (t.getD s.1.toNat rqZ0) ax ay now + t.getD s.1.toNat rqZ0 9)
theorem lvRun_snoc (t:List Rq):∀ (l:List (Int × Int)) (s:Int × Int) (ax ay now:Int),lvRun t (l ++ [s]) ax ay now =
  (gX s.2 (t.getD s.1.toNat rqZ0),gY s.2 (t.getD s.1.toNat rqZ0),gB s.2 (t.getD s.1.toNat rqZ0) (lvRun t l ax ay now).1 (lvRun t l ax ay now).2.1 (lvRun t l ax ay now).2.2 + t.getD s.1.toNat rqZ0 9)
 | [],s,ax,ay,now=>rfl
 | x :: l,s,ax,ay,now=>by
  show lvRun t (l ++ [s]) _ _ _ = _
  rw [lvRun_snoc]
  rfl
theorem lvRun_take (t:List Rq) (l:List (Int × Int)) {i:Nat} (hi:i < l.length) (ax ay now:Int):lvRun t (l.take (i + 1)) ax ay now =
  (gX l[i].2 (t.getD l[i].1.toNat rqZ0),gY l[i].2 (t.getD l[i].1.toNat rqZ0),gB l[i].2 (t.getD l[i].1.toNat rqZ0) (lvRun t (l.take i) ax ay now).1 (lvRun t (l.take i) ax ay now).2.1 (lvRun t (l.take i) ax ay now).2.2 + t.getD l[i].1.toNat rqZ0 9):=by
 rw [List.take_succ_eq_append_getElem hi,lvRun_snoc]
theorem ptG_g {t:List Rq} (ht:∀ q ∈ t,rqE q = 0) {s:Int × Int} (h:0≤s.1∧s.1 < t.length∧(s.2 = 0∨s.2 = 1)):
  ptG s t = ⟨gX s.2 (t.getD s.1.toNat rqZ0),gY s.2 (t.getD s.1.toNat rqZ0),gE s.2 (t.getD s.1.toNat rqZ0),gL s.2 (t.getD s.1.toNat rqZ0),t.getD s.1.toNat rqZ0 9⟩∧wiB (gE s.2 (t.getD s.1.toNat rqZ0)) (gL s.2 (t.getD s.1.toNat rqZ0)) = true:=by
 have hr:¬ (s.1 < 0∨(t.length:Int)≤s.1):=by omega
 have hn:s.1.toNat < t.length:=by omega
 have hq:=rqE_all (ht (t.getD s.1.toNat rqZ0) (by rw [getD_at t hn]; exact List.getElem_mem hn))
 unfold ptG ptOf gX gY gE gL wiB
 rw [if_neg hr]
 rcases h.2.2 with e | e
 ·rw [if_pos e,if_pos e,if_pos e,if_pos e,if_pos e]
  exact ⟨rfl,decide_eq_true hq.1⟩
 ·have e0:¬ s.2 = 0:=by omega
  rw [if_neg e0,if_pos e,if_neg e0,if_neg e0,if_neg e0,if_neg e0]
  exact ⟨rfl,decide_eq_true hq.2.1⟩
theorem tm_lv {t:List Rq} (ht:∀ q ∈ t,rqE q = 0):∀ (l:List (Int × Int)) (ax ay now:Int),(∀ s ∈ l,0≤s.1∧s.1 < t.length∧(s.2 = 0∨s.2 = 1))→
  ((∃ L,tmRun t l ax ay now = some (L,lvRun t l ax ay now))↔∀ i,(hi:i < l.length)→(lvRun t (l.take (i + 1)) ax ay now).2.2 - t.getD l[i].1.toNat rqZ0 9≤gL l[i].2 (t.getD l[i].1.toNat rqZ0))∧
    ∀ R,tmRun t l ax ay now = some R→R.2 = lvRun t l ax ay now
 | [],ax,ay,now,_=>⟨⟨fun _ i hi=>by simp at hi,fun _=>⟨[],rfl⟩⟩,fun R h=>by cases h; rfl⟩
 | s :: r,ax,ay,now,hs=>by
  obtain ⟨hg,hw⟩:=ptG_g ht (hs s List.mem_cons_self)
  have ewa:waB (gE s.2 (t.getD s.1.toNat rqZ0)) (gL s.2 (t.getD s.1.toNat rqZ0)) (now + dsP ax ay (gX s.2 (t.getD s.1.toNat rqZ0)) (gY s.2 (t.getD s.1.toNat rqZ0))) = decide (gB s.2 (t.getD s.1.toNat rqZ0) ax ay now≤gL s.2 (t.getD s.1.toNat rqZ0)):=by
   unfold waB gB
   rw [hw]
   rfl
  obtain ⟨ih1,ih2⟩:=tm_lv ht r (gX s.2 (t.getD s.1.toNat rqZ0)) (gY s.2 (t.getD s.1.toNat rqZ0)) (gB s.2 (t.getD s.1.toNat rqZ0) ax ay now + t.getD s.1.toNat rqZ0 9) (fun x hx=>hs x (List.mem_cons_of_mem _ hx))
  have hlv:lvRun t (s :: r) ax ay now = lvRun t r (gX s.2 (t.getD s.1.toNat rqZ0)) (gY s.2 (t.getD s.1.toNat rqZ0)) (gB s.2 (t.getD s.1.toNat rqZ0) ax ay now + t.getD s.1.toNat rqZ0 9):=rfl
  rw [tmRun_cons,hg]
  dsimp only
  rw [ewa]
  by_cases hb:gB s.2 (t.getD s.1.toNat rqZ0) ax ay now≤gL s.2 (t.getD s.1.toNat rqZ0)
  ·have ewn:waN (gE s.2 (t.getD s.1.toNat rqZ0)) (gL s.2 (t.getD s.1.toNat rqZ0)) (now + dsP ax ay (gX s.2 (t.getD s.1.toNat rqZ0)) (gY s.2 (t.getD s.1.toNat rqZ0))) = gB s.2 (t.getD s.1.toNat rqZ0) ax ay now:=by
    unfold waN
    rw [ewa,decide_eq_true hb]
    rfl
   rw [if_pos (decide_eq_true hb),ewn,hlv]
   refine ⟨⟨fun h i hi=>?_,fun h=>?_⟩,fun R h=>?_⟩
   ·obtain ⟨L,h⟩:=h
    obtain ⟨q,hq,he⟩:=Option.map_eq_some_iff.1 h
    have hq2:=ih2 q hq
    match i,hi with
    | 0,_=>
     show gB s.2 (t.getD s.1.toNat rqZ0) ax ay now + t.getD s.1.toNat rqZ0 9 - t.getD s.1.toNat rqZ0 9≤_
     show _≤gL s.2 (t.getD s.1.toNat rqZ0)
     omega
    | i + 1,hi=>exact ih1.1 ⟨q.1,by rw [hq,← hq2]⟩ i (by simpa using hi)
   ·obtain ⟨L,hL⟩:=ih1.2 (fun i hi=>h (i + 1) (by simpa using hi))
    exact ⟨_,by rw [hL]; rfl⟩
   ·obtain ⟨q,hq,he⟩:=Option.map_eq_some_iff.1 h
    rw [← he]
    exact ih2 q hq
  ·rw [if_neg (by rw [decide_eq_false hb]; simp)]
   refine ⟨⟨fun h=>?_,fun h=>?_⟩,fun R h=>by cases h⟩
   ·obtain ⟨L,h⟩:=h
    cases h
   ·exfalso
    have h0:=h 0 (by simp)
    have h1:gB s.2 (t.getD s.1.toNat rqZ0) ax ay now + t.getD s.1.toNat rqZ0 9 - t.getD s.1.toNat rqZ0 9≤gL s.2 (t.getD s.1.toNat rqZ0):=h0
    omega
def stc9 (cp:Int) (x y st:Int) (l:List (Int × Int)) (t:List Rq) (i:Nat):Int:=
 if cp < onK l t (i + 1) then 10 else if gL (l.getD i (0,0)).2 (t.getD (l.getD i (0,0)).1.toNat rqZ0) < (lvRun t (l.take (i + 1)) x y st).2.2 - t.getD (l.getD i (0,0)).1.toNat rqZ0 9 then 9 else 0
theorem right_lv {x y cp st en:Int} {l:List (Int × Int)} {t:List Rq} (hv:vehCode x y cp st en = 0) (ht:∀ q ∈ t,rqE q = 0) (hl:l.length≤16) (hR:Rou l) (hT:∀ s ∈ l,s.1 < t.length):
  RightP x y cp st en l t↔(∀ i,i < l.length→stc9 cp x y st l t i = 0)∧(lvRun t l x y st).2.2 + dsP (lvRun t l x y st).1 (lvRun t l x y st).2.1 x y≤en:=by
 have hs:∀ s ∈ l,0≤s.1∧s.1 < t.length∧(s.2 = 0∨s.2 = 1):=fun s h=>by
  have:=rou_mem hR h
  exact ⟨this.1,hT s h,this.2.1⟩
 obtain ⟨h1,h2⟩:=tm_lv ht l x y st hs
 have hst:∀ i,(hi:i < l.length)→(stc9 cp x y st l t i = 0↔onK l t (i + 1)≤cp∧(lvRun t (l.take (i + 1)) x y st).2.2 - t.getD l[i].1.toNat rqZ0 9≤gL l[i].2 (t.getD l[i].1.toNat rqZ0)):=fun i hi=>by
  unfold stc9
  have e:l.getD i (0,0) = l[i]:=by rw [List.getD_eq_getElem?_getD,List.getElem?_eq_getElem hi]; rfl
  rw [e]
  constructor
  ·intro h
   split at h
   ·cases h
   ·split at h
    ·cases h
    ·omega
  ·rintro ⟨a,b⟩
   rw [if_neg (by omega),if_neg (by omega)]
 constructor
 ·rintro ⟨_,_,_,_,_,hk,L,ax,ay,now,h3,h4⟩
  have h5:=h2 _ h3
  rw [← h5]
  refine ⟨fun i hi=>(hst i hi).2 ⟨hk i hi,h1.1 ⟨L,by rw [h3,← h5]⟩ i hi⟩,h4⟩
 ·rintro ⟨h3,h4⟩
  obtain ⟨L,hL⟩:=h1.2 (fun i hi=>((hst i hi).1 (h3 i hi)).2)
  exact ⟨hv,ht,hl,hR,hT,fun k hk=>((hst k hk).1 (h3 k hk)).1,L,_,_,_,hL,h4⟩
end
end Go.Proofs.YtkaoflndbcfodaaGreat
