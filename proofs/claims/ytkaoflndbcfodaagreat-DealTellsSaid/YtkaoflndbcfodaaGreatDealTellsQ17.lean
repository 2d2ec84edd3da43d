/-
  The row 'DealTells': a pack of the texts PnP Pa Lw, pruned to what the row uses.
-/
import Derived.Test.YtkaoflndbcfodaaGreatDealTellsQ16
namespace Go.Proofs.YtkaoflndbcfodaaGreat
set_option maxHeartbeats 8000000
set_option maxRecDepth 100000
section
section
open Go.RowKit
abbrev Rou2:=List (Int × Int)
def ve0:Ve:=fun _=>0
def bestV (v:Ve) (l:Rou2) (t:List Rq) (req:Int):Wy × Int:=bestP (v 0) (v 1) (v 2) (v 3) (v 4) l t req
def cputV (v:Ve) (l:Rou2) (t:List Rq) (req:Int):Rou2 × Int × Int:=cputP (v 0) (v 1) (v 2) (v 3) (v 4) l t req
def timV (v:Ve) (l:Rou2) (t:List Rq):Tms × Int × Int:=tmP (v 0) (v 1) (v 2) (v 3) (v 4) l t
def RightV (v:Ve) (l:Rou2) (t:List Rq):Prop:=RightP (v 0) (v 1) (v 2) (v 3) (v 4) l t
def vehV (v:Ve):Int:=vehCode (v 0) (v 1) (v 2) (v 3) (v 4)
def whereP (rows:List Rou2) (req:Int):Int:=fstI (fun l=>l.any (fun s=>s.1 == req)) rows
theorem fstI_ge {α:Type} (P:α→Bool) (l:List α):-1≤fstI P l∧fstI P l < l.length:=by
 unfold fstI
 cases h:l.findIdx? P with
 | none=>dsimp only; omega
 | some k=>
  have:=(List.findIdx?_eq_some_iff_getElem.1 h).1
  dsimp only
  omega
theorem where_some {rows:List Rou2} {req:Int} (h:0≤whereP rows req):∃ (i:Nat) (hi:i < rows.length),whereP rows req = i∧∃ s ∈ rows[i],s.1 = req:=by
 unfold whereP fstI at h ⊢
 cases hf:rows.findIdx? (fun l=>l.any (fun s=>s.1 == req)) with
 | none=>rw [hf] at h; dsimp only at h; omega
 | some k=>
  obtain ⟨hk,h1,_⟩:=List.findIdx?_eq_some_iff_getElem.1 hf
  obtain ⟨s,hs,e⟩:=List.any_eq_true.1 h1
  exact ⟨k,hk,rfl,s,hs,by simpa using e⟩
theorem where_none {rows:List Rou2} {req:Int} (h:whereP rows req < 0):∀ l ∈ rows,∀ s ∈ l,s.1 ≠ req:=by
 unfold whereP fstI at h
 cases hf:rows.findIdx? (fun l=>l.any (fun s=>s.1 == req)) with
 | none=>
  intro l hl s hs e
  have:=List.findIdx?_eq_none_iff.1 hf l hl
  rw [List.any_eq_false] at this
  exact this s hs (by simpa using e)
 | some k=>rw [hf] at h; dsimp only at h; omega
def prcK (fl:List Ve) (rows:List Rou2) (t:List Rq) (req:Int):Nat→Option (Nat × Int)
 | 0=>none
 | k + 1=>if (bestV (fl.getD k ve0) (rows.getD k []) t req).2 ≠ 0 then prcK fl rows t req k else
   match prcK fl rows t req k with
   | none=>some (k,(bestV (fl.getD k ve0) (rows.getD k []) t req).1.2.2)
   | some p=>if p.2≤(bestV (fl.getD k ve0) (rows.getD k []) t req).1.2.2 then some p else some (k,(bestV (fl.getD k ve0) (rows.getD k []) t req).1.2.2)
theorem prcK_lt (fl:List Ve) (rows:List Rou2) (t:List Rq) (req:Int):∀ (k:Nat) (p:Nat × Int),prcK fl rows t req k = some p→p.1 < k∧(bestV (fl.getD p.1 ve0) (rows.getD p.1 []) t req).2 = 0∧p.2 = (bestV (fl.getD p.1 ve0) (rows.getD p.1 []) t req).1.2.2
 | 0,p,h=>by cases h
 | k + 1,p,h=>by
  unfold prcK at h
  by_cases h1:(bestV (fl.getD k ve0) (rows.getD k []) t req).2 ≠ 0
  ·rw [if_pos h1] at h
   have:=prcK_lt fl rows t req k p h
   exact ⟨by omega,this.2⟩
  ·rw [if_neg h1] at h
   cases hq:prcK fl rows t req k with
   | none=>rw [hq] at h; cases h; exact ⟨by dsimp only; omega,by dsimp only; omega,rfl⟩
   | some q=>
    rw [hq] at h
    dsimp only at h
    by_cases h2:q.2≤(bestV (fl.getD k ve0) (rows.getD k []) t req).1.2.2
    ·rw [if_pos h2] at h
     have e:=Option.some.inj h
     have:=prcK_lt fl rows t req k q hq
     rw [← e]
     exact ⟨by omega,this.2⟩
    ·rw [if_neg h2] at h; cases h; exact ⟨by dsimp only; omega,by dsimp only; omega,rfl⟩
def prcP (fl:List Ve) (rows:List Rou2) (t:List Rq) (req:Int):Int × Int × Int:=
 if req < 0∨(t.length:Int)≤req then (0,0,8)
 else if 0≤whereP rows req then (0,0,13)
 else match prcK fl rows t req fl.length with
  | none=>(0,0,12)
  | some p=>((p.1:Int),p.2,0)
def pputP (fl:List Ve) (rows:List Rou2) (t:List Rq) (req:Int):List Rou2 × Int × Int:=
 if (prcP fl rows t req).2.2 ≠ 0 then (rows,0,(prcP fl rows t req).2.2)
 else (rows.set (prcP fl rows t req).1.toNat (cputV (fl.getD (prcP fl rows t req).1.toNat ve0) (rows.getD (prcP fl rows t req).1.toNat []) t req).1,
  (cputV (fl.getD (prcP fl rows t req).1.toNat ve0) (rows.getD (prcP fl rows t req).1.toNat []) t req).2)
def ptakP (rows:List Rou2) (req:Int):List Rou2 × Int:=
 if whereP rows req < 0 then (rows,12) else (rows.set (whereP rows req).toNat (woP (rows.getD (whereP rows req).toNat []) req),0)
def totV (v:Ve) (l:Rou2) (t:List Rq):Int:=(timV v l t).2.1 - v 3
def totK (fl:List Ve) (rows:List Rou2) (t:List Rq):Nat→Int
 | 0=>0
 | k + 1=>totK fl rows t k + totV (fl.getD k ve0) (rows.getD k []) t
def totP (fl:List Ve) (rows:List Rou2) (t:List Rq):Int:=totK fl rows t fl.length
def allQ (rows:List Rou2) (t:List Rq):List Int:=((List.range t.length).map (fun i:Nat=>(i:Int))).filter fun r=>decide (0≤whereP rows r)
structure PlnOk (fl:List Ve) (rows:List Rou2) (t:List Rq):Prop where
 len:rows.length = fl.length
 many:1≤fl.length∧fl.length≤4
 veh:∀ v ∈ fl,vehV v = 0
 req:∀ q ∈ t,rqE q = 0
 right:∀ (i:Nat),i < fl.length→RightV (fl.getD i ve0) (rows.getD i []) t
 one:∀ (i j:Nat) (s s':Int × Int),s ∈ rows.getD i []→s' ∈ rows.getD j []→s.1 = s'.1→i = j
end
section
open Go.RowKit
theorem told_okQ {l:List (Int × Int)} {t:List Rq} (hR:Rou l) (hl:l.length≤16) (ht:∀ q ∈ t,rqE q = 0) (hs:∀ s ∈ l,0≤s.1∧s.1 < (t.length:Int)):toldP l t = 0:=by
 unfold toldP
 rw [if_neg (by rw [(route_iff l).2 ⟨hl,hR⟩]; simp)]
 rw [if_neg (by
  simp only [List.any_eq_true,decide_eq_true_eq,not_exists,not_and]
  intro s h
  have:=hs s h
  omega)]
 rw [if_neg (by
  simp only [List.any_eq_true,not_exists,not_and]
  intro s h
  have:=hs s h
  have hn:s.1.toNat < t.length:=by omega
  rw [getD_at t hn,ht _ (List.getElem_mem hn)]
  simp)]
theorem prs_mem {n:Nat} (hn:n≤16) (p:Int × Int):p ∈ prs n↔∃ i j:Nat,i≤j∧j≤n∧p = ((i:Int),(j:Int)):=by
 unfold prs
 rw [if_neg (by omega),show ((n:Int) + 1).toNat = n + 1 by omega]
 unfold prsI
 rw [List.mem_flatMap]
 constructor
 ·rintro ⟨i,hi,h⟩
  unfold rowP at h
  obtain ⟨k,hk,rfl⟩:=List.mem_map.1 h
  have h1:=List.mem_range.1 hi
  have h2:=List.mem_range.1 hk
  exact ⟨i,i + k,by omega,by omega,rfl⟩
 ·rintro ⟨i,j,hij,hj,rfl⟩
  refine ⟨i,List.mem_range.2 (by omega),?_⟩
  unfold rowP
  refine List.mem_map.2 ⟨j - i,List.mem_range.2 (by omega),?_⟩
  rw [show i + (j - i) = j by omega]
theorem wys_mem {x y cp st en:Int} {l:List (Int × Int)} {t:List Rq} {req:Int} {ps:List (Int × Int)} {u:Wy}:
  u ∈ wysP x y cp st en l t req ps↔∃ p ∈ ps,(riseP x y cp st en l t req p.1 p.2).2 = 0∧u = (p.1,p.2,(riseP x y cp st en l t req p.1 p.2).1):=by
 unfold wysP
 rw [List.mem_flatMap]
 constructor
 ·rintro ⟨p,hp,h⟩
  unfold wyOf at h
  by_cases h0:(riseP x y cp st en l t req p.1 p.2).2 = 0
  ·rw [if_pos h0] at h
   exact ⟨p,hp,h0,by simpa using h⟩
  ·rw [if_neg h0] at h
   cases h
 ·rintro ⟨p,hp,h0,rfl⟩
  exact ⟨p,hp,by unfold wyOf; rw [if_pos h0]; exact List.mem_cons_self⟩
theorem lstW_le:∀ (r:List Wy) (b:Wy),(lstW b r).2.2≤b.2.2∧∀ u ∈ r,(lstW b r).2.2≤u.2.2
 | [],b=>⟨Int.le_refl _,fun u h=>by cases h⟩
 | y :: r,b=>by
  show (lstW (if y.2.2 < b.2.2 then y else b) r).2.2≤b.2.2∧∀ u ∈ y :: r,(lstW (if y.2.2 < b.2.2 then y else b) r).2.2≤u.2.2
  obtain ⟨h1,h2⟩:=lstW_le r (if y.2.2 < b.2.2 then y else b)
  have h3:(if y.2.2 < b.2.2 then y else b).2.2≤b.2.2∧(if y.2.2 < b.2.2 then y else b).2.2≤y.2.2:=by
   split <;> constructor <;> omega
  refine ⟨by omega,fun u hu=>?_⟩
  rcases List.mem_cons.1 hu with rfl | hu
  ·omega
  ·exact h2 u hu
theorem rou_withL {l:List (Int × Int)} (h:Rou l) {req:Int} (hr:0≤req) (hn:∀ s ∈ l,s.1 ≠ req) {i j:Nat} (hij:i≤j) (hj:j≤l.length):Rou (withL l req i j):=by
 rw [withL_ins l req hij hj]
 exact rou_ins h hr hn (by omega) (by omega)
theorem withL_in {l:List (Int × Int)} {req:Int} {i j:Nat} (hij:i≤j) (hj:j≤l.length) {s:Int × Int}:s ∈ withL l req i j↔s = (req,0)∨s = (req,1)∨s ∈ l:=by
 rw [withL_ins l req hij hj,insS_mem,insS_mem]
 constructor
 ·rintro (h | h | h)
  ·exact .inr (.inl h)
  ·exact .inl h
  ·exact .inr (.inr h)
 ·rintro (h | h | h)
  ·exact .inr (.inl h)
  ·exact .inl h
  ·exact .inr (.inr h)
theorem wr_zero {x y cp st en:Int} {l:List (Int × Int)} {t:List Rq} (hv:vehCode x y cp st en = 0) (ht:∀ q ∈ t,rqE q = 0) (hl:l.length≤16) (hR:Rou l) (hT:∀ s ∈ l,s.1 < t.length):wrP x y cp st en l t = 0:=by
 have hc:chkP l = 0:=(route_iff l).2 ⟨hl,hR⟩
 unfold wrP
 rw [if_neg (by omega),if_neg (by simpa using ht),if_neg (by omega),if_neg]
 simp only [Bool.not_eq_true,List.any_eq_false,Bool.not_eq_eq_eq_not]
 intro s hs
 have h1:=rou_mem hR hs
 have h2:=hT s hs
 unfold ptB ptOf
 rw [if_neg (by omega)]
 rcases h1.2.1 with e | e
 ·rw [if_pos e]; simp
 ·rw [if_neg (by omega),if_pos e]; simp
theorem rise_code {x y cp st en:Int} {l:List (Int × Int)} {t:List Rq} {req:Int} {i j:Nat} (hij:i≤j) (hj:j≤l.length) (hr:0≤req∧req < t.length) (hn:∀ s ∈ l,s.1 ≠ req) (hl:l.length≤14) (h:RightP x y cp st en l t):
  (riseP x y cp st en l t req i j).2 = 0∨(riseP x y cp st en l t req i j).2 = 10∨(riseP x y cp st en l t req i j).2 = 9:=by
 have h0:=((right_iff x y cp st en l t).1 h).1
 have hp:=putP_right (x:=x) (y:=y) (cp:=cp) (st:=st) (en:=en) hij hj hr hn hl h0
 obtain ⟨hv,ht,_,hR,hT,_,_⟩:=h
 have hR':=rou_withL hR hr.1 hn hij hj
 have hl':(withL l req i j).length≤16:=by rw [withL_len l req hij hj]; omega
 have hT':∀ s ∈ withL l req i j,0≤s.1∧s.1 < (t.length:Int):=fun s hs=>by
  rcases (withL_in hij hj).1 hs with rfl | rfl | hs
  ·exact hr
  ·exact hr
  ·exact ⟨(rou_mem hR hs).1,hT s hs⟩
 have hto:=told_okQ hR' hl' ht hT'
 have hw:=wr_zero (x:=x) (y:=y) (cp:=cp) (st:=st) (en:=en) hv ht hl' hR' (fun s hs=>(hT' s hs).2)
 unfold riseP
 rw [hp]
 dsimp only
 rw [if_neg (by simp)]
 generalize withL l req i j = m at *
 have hf:(fitP x y cp st en m t).2 = 0∨(fitP x y cp st en m t).2 = 10:=by
  unfold fitP
  rw [if_neg (by omega),if_neg (by omega)]
  split <;> simp
 have htm:(tmP x y cp st en m t).2.2 = 0∨(tmP x y cp st en m t).2.2 = 9:=by
  unfold tmP
  rw [if_neg (by omega)]
  split
  ·simp
  ·split <;> simp
 by_cases h1:(fitP x y cp st en m t).2 ≠ 0
 ·rw [if_pos h1]
  dsimp only
  omega
 ·rw [if_neg h1]
  by_cases h2:(tmP x y cp st en m t).2.2 ≠ 0
  ·rw [if_pos h2]
   dsimp only
   omega
  ·rw [if_neg h2]
   exact .inl rfl
def riseV (v:Ve) (l:Rou2) (t:List Rq) (req:Int) (i j:Nat):Int:=(timV v (withL l req i j) t).2.1 - (timV v l t).2.1
theorem best_ok {v:Ve} {l:Rou2} {t:List Rq} {req:Int} (hR:RightV v l t) (hr:0≤req∧req < t.length) (hn:∀ s ∈ l,s.1 ≠ req) (h:(bestV v l t req).2 = 0):
  ∃ i j:Nat,i≤j∧j≤l.length∧l.length≤14∧RightV v (withL l req i j) t∧(bestV v l t req).1 = ((i:Int),(j:Int),riseV v l t req i j)∧0≤riseV v l t req i j∧
   ∀ i' j':Nat,i'≤j'→j'≤l.length→RightV v (withL l req i' j') t→riseV v l t req i j≤riseV v l t req i' j':=by
 have hl16:=hR.2.2.1
 unfold bestV bestP allP at h ⊢
 by_cases hc:(riseP (v 0) (v 1) (v 2) (v 3) (v 4) l t req 0 0).2 = 0∨(riseP (v 0) (v 1) (v 2) (v 3) (v 4) l t req 0 0).2 = 10∨(riseP (v 0) (v 1) (v 2) (v 3) (v 4) l t req 0 0).2 = 9
 ·rw [if_pos hc] at h ⊢
  dsimp only at h ⊢
  rw [if_neg (by simp)] at h ⊢
  cases hw:wysP (v 0) (v 1) (v 2) (v 3) (v 4) l t req (prs l.length) with
  | nil=>rw [hw] at h; cases h
  | cons b r=>
   dsimp only
   have hmem:lstW b r ∈ wysP (v 0) (v 1) (v 2) (v 3) (v 4) l t req (prs l.length):=by
    rw [hw]
    rcases lstW_mem r b with e | e
    ·rw [e]; exact List.mem_cons_self
    ·exact List.mem_cons_of_mem _ e
   obtain ⟨p,hp,h0,e⟩:=wys_mem.1 hmem
   obtain ⟨i,j,hij,hj,rfl⟩:=(prs_mem hl16 p).1 hp
   dsimp only at h0 e
   have hl14:l.length≤14:=by
    by_cases hh:l.length≤14
    ·exact hh
    ·exfalso
     have hz:=((right_iff _ _ _ _ _ l t).1 hR).1
     have hp:putP (v 0) (v 1) (v 2) (v 3) (v 4) l t req i j = ([],0,11):=by
      unfold putP
      rw [if_neg (c:=req < 0∨_) (by
       simp only [not_or,List.any_eq_true,not_exists,not_and]
       exact ⟨by omega,by omega,fun s hs e=>hn s hs (by simpa using e)⟩),if_neg (fun h=>h hz),if_pos (by omega)]
     unfold riseP at h0
     rw [hp] at h0
     simp at h0
   have hRw:RightV v (withL l req i j) t:=Classical.byContradiction fun hh=>(rise_wrong hij hj hr hn hl14 hh).2 h0
   obtain ⟨_,e2,e3⟩:=rise_right hij hj hr hn hl14 hRw
   have e4:(riseP (v 0) (v 1) (v 2) (v 3) (v 4) l t req i j).1 = riseV v l t req i j:=by rw [e2]; rfl
   rw [e4] at e
   refine ⟨i,j,hij,hj,hl14,hRw,e,e3,fun i' j' hij' hj' hR'=>?_⟩
   obtain ⟨_,e5,_⟩:=rise_right hij' hj' hr hn hl14 hR'
   have hm':((i':Int),(j':Int),riseV v l t req i' j') ∈ wysP (v 0) (v 1) (v 2) (v 3) (v 4) l t req (prs l.length):=
    wys_mem.2 ⟨((i':Int),(j':Int)),(prs_mem hl16 _).2 ⟨i',j',hij',hj',rfl⟩,by rw [e5],by rw [e5]; rfl⟩
   rw [hw] at hm'
   have hle:=lstW_le r b
   rw [e] at hle
   rcases List.mem_cons.1 hm' with h5 | h5
   ·rw [← h5] at hle
    exact hle.1
   ·exact hle.2 _ h5
 ·rw [if_neg hc] at h
  dsimp only at h
  exfalso
  have hh:(riseP (v 0) (v 1) (v 2) (v 3) (v 4) l t req 0 0).2 ≠ 0:=fun e=>hc (.inl e)
  rw [if_pos hh] at h
  exact hh h
end
section
open Go.RowKit
theorem getD_setS {α:Type} (l:List α) (i j:Nat) (a d:α):(l.set i a).getD j d = if i = j∧i < l.length then a else l.getD j d:=by
 rw [List.getD_eq_getElem?_getD,List.getD_eq_getElem?_getD,List.getElem?_set]
 by_cases h:i = j
 ·subst h
  by_cases h2:i < l.length
  ·simp [h2]
  ·simp [h2]
 ·simp [h]
theorem mem_getD {α:Type} {l:List α} {i:Nat} {d:α} (h:i < l.length):l.getD i d ∈ l:=by
 rw [List.getD_eq_getElem?_getD,List.getElem?_eq_getElem h]
 exact List.getElem_mem h
theorem nil_getD {l:List Rou2} {i:Nat} {s:Int × Int} (h:s ∈ l.getD i []):i < l.length:=by
 by_cases hi:i < l.length
 ·exact hi
 ·rw [List.getD_eq_getElem?_getD,List.getElem?_eq_none (by omega)] at h
  cases h
theorem PlnOk.turn {fl:List Ve} {rows:List Rou2} {t:List Rq} (h:PlnOk fl rows t) {i:Nat} (hi:i < fl.length) {l:Rou2} (hl:RightV (fl.getD i ve0) l t)
  (hs:∀ s ∈ l,s ∈ rows.getD i []∨∀ (j:Nat) (s':Int × Int),s' ∈ rows.getD j []→s'.1 ≠ s.1):PlnOk fl (rows.set i l) t:=by
 have hir:i < rows.length:=by rw [h.len]; exact hi
 refine ⟨by rw [List.length_set]; exact h.len,h.many,h.veh,h.req,fun j hj=>?_,fun j k s s' h1 h2 e=>?_⟩
 ·rw [getD_setS]
  by_cases e:i = j
  ·subst e; rw [if_pos ⟨rfl,hir⟩]; exact hl
  ·rw [if_neg (fun x=>e x.1)]; exact h.right j hj
 ·rw [getD_setS] at h1 h2
  by_cases e1:i = j
  ·subst e1
   rw [if_pos ⟨rfl,hir⟩] at h1
   by_cases e2:i = k
   ·exact e2
   ·rw [if_neg (fun x=>e2 x.1)] at h2
    rcases hs s h1 with h3 | h3
    ·exact h.one i k s s' h3 h2 e
    ·exact absurd e.symm (h3 k s' h2)
  ·rw [if_neg (fun x=>e1 x.1)] at h1
   by_cases e2:i = k
   ·subst e2
    rw [if_pos ⟨rfl,hir⟩] at h2
    rcases hs s' h2 with h3 | h3
    ·exact h.one j i s s' h1 h3 e
    ·exact absurd e (h3 j s h1)
   ·rw [if_neg (fun x=>e2 x.1)] at h2
    exact h.one j k s s' h1 h2 e
theorem where_getD {rows:List Rou2} {req:Int} (h:whereP rows req < 0) {i:Nat} {s:Int × Int} (hs:s ∈ rows.getD i []):s.1 ≠ req:=
 where_none h _ (mem_getD (nil_getD hs)) s hs
theorem prc_ok {fl:List Ve} {rows:List Rou2} {t:List Rq} {req:Int} (h:(prcP fl rows t req).2.2 = 0):∃ (i:Nat),i < fl.length∧(0≤req∧req < t.length)∧whereP rows req < 0∧
  (bestV (fl.getD i ve0) (rows.getD i []) t req).2 = 0∧prcP fl rows t req = ((i:Int),(bestV (fl.getD i ve0) (rows.getD i []) t req).1.2.2,0):=by
 unfold prcP at h ⊢
 by_cases h1:req < 0∨(t.length:Int)≤req
 ·rw [if_pos h1] at h; cases h
 rw [if_neg h1] at h ⊢
 by_cases h2:0≤whereP rows req
 ·rw [if_pos h2] at h; cases h
 rw [if_neg h2] at h ⊢
 cases hk:prcK fl rows t req fl.length with
 | none=>rw [hk] at h; cases h
 | some p=>
  have:=prcK_lt fl rows t req _ p hk
  refine ⟨p.1,this.1,by omega,by omega,this.2.1,?_⟩
  dsimp only
  rw [this.2.2]
theorem put_ok {fl:List Ve} {rows:List Rou2} {t:List Rq} {req:Int} (hP:PlnOk fl rows t) (h:(prcP fl rows t req).2.2 = 0):∃ (i a b:Nat),i < fl.length∧a≤b∧b≤(rows.getD i []).length∧(rows.getD i []).length≤14∧
  (0≤req∧req < t.length)∧whereP rows req < 0∧RightV (fl.getD i ve0) (withL (rows.getD i []) req a b) t∧0≤riseV (fl.getD i ve0) (rows.getD i []) t req a b∧
  (cputV (fl.getD i ve0) (rows.getD i []) t req) = (withL (rows.getD i []) req a b,riseV (fl.getD i ve0) (rows.getD i []) t req a b,0)∧
  prcP fl rows t req = ((i:Int),riseV (fl.getD i ve0) (rows.getD i []) t req a b,0)∧
  pputP fl rows t req = (rows.set i (withL (rows.getD i []) req a b),riseV (fl.getD i ve0) (rows.getD i []) t req a b,0):=by
 obtain ⟨i,hi,hr,hw,hb,e⟩:=prc_ok h
 have hn:∀ s ∈ rows.getD i [],s.1 ≠ req:=fun s hs=>where_getD hw hs
 obtain ⟨a,b,hab,hbl,hl14,hR,e2,h0,_⟩:=best_ok (hP.right i hi) hr hn hb
 have hc:cputV (fl.getD i ve0) (rows.getD i []) t req = (withL (rows.getD i []) req a b,riseV (fl.getD i ve0) (rows.getD i []) t req a b,0):=by
  unfold cputV cputP
  unfold bestV at hb e2
  rw [if_neg (by omega),e2]
  dsimp only
  rw [withP_some hab hbl hr.1 hn hl14]
  rfl
 have e3:prcP fl rows t req = ((i:Int),riseV (fl.getD i ve0) (rows.getD i []) t req a b,0):=by rw [e,e2]
 refine ⟨i,a,b,hi,hab,hbl,hl14,hr,hw,hR,h0,hc,e3,?_⟩
 unfold pputP
 rw [e3]
 dsimp only
 rw [if_neg (by simp),Int.toNat_natCast,hc]
theorem put_no {fl:List Ve} {rows:List Rou2} {t:List Rq} {req:Int} (h:(prcP fl rows t req).2.2 ≠ 0):pputP fl rows t req = (rows,0,(prcP fl rows t req).2.2):=by
 unfold pputP
 rw [if_pos h]
theorem put_keeps {fl:List Ve} {rows:List Rou2} {t:List Rq} (hP:PlnOk fl rows t) (req:Int):PlnOk fl (pputP fl rows t req).1 t:=by
 by_cases h:(prcP fl rows t req).2.2 = 0
 ·obtain ⟨i,a,b,hi,hab,hbl,_,hr,hw,hR,_,_,_,e⟩:=put_ok hP h
  rw [e]
  refine hP.turn hi hR fun s hs=>?_
  rcases (withL_in hab hbl).1 hs with rfl | rfl | hs
  ·exact .inr fun j s' hs'=>where_getD hw hs'
  ·exact .inr fun j s' hs'=>where_getD hw hs'
  ·exact .inl hs
 ·rw [put_no h]
  exact hP
theorem take_keeps {fl:List Ve} {rows:List Rou2} {t:List Rq} (hP:PlnOk fl rows t) (req:Int):PlnOk fl (ptakP rows req).1 t:=by
 unfold ptakP
 by_cases h:whereP rows req < 0
 ·rw [if_pos h]; exact hP
 ·rw [if_neg h]
  obtain ⟨i,hi,e,_⟩:=where_some (by omega:0≤whereP rows req)
  rw [e,Int.toNat_natCast]
  exact hP.turn (by rw [← hP.len]; exact hi) (right_wo (hP.right i (by rw [← hP.len]; exact hi)) req).1 fun s hs=>.inl (woP_mem.1 hs).1
theorem totK_set (fl:List Ve) (rows:List Rou2) (t:List Rq) (i:Nat) (l:Rou2) (hi:i < rows.length):∀ k,totK fl (rows.set i l) t k = totK fl rows t k + if i < k then totV (fl.getD i ve0) l t - totV (fl.getD i ve0) (rows.getD i []) t else 0
 | 0=>by simp [totK]
 | k + 1=>by
  unfold totK
  rw [totK_set fl rows t i l hi k,getD_setS]
  by_cases e:i = k
  ·subst e
   rw [if_neg (by omega),if_pos ⟨rfl,hi⟩,if_pos (by omega)]
   omega
  ·rw [if_neg (c:=i = k∧_) (fun x=>e x.1)]
   by_cases h:i < k
   ·rw [if_pos h,if_pos (by omega)]; omega
   ·rw [if_neg h,if_neg (by omega)]; omega
theorem put_tot {fl:List Ve} {rows:List Rou2} {t:List Rq} (hP:PlnOk fl rows t) (req:Int):totP fl (pputP fl rows t req).1 t = totP fl rows t + (pputP fl rows t req).2.1:=by
 by_cases h:(prcP fl rows t req).2.2 = 0
 ·obtain ⟨i,a,b,hi,hab,hbl,_,hr,hw,hR,_,_,_,e⟩:=put_ok hP h
  rw [e]
  unfold totP
  dsimp only
  rw [totK_set _ _ _ _ _ (by rw [hP.len]; exact hi),if_pos hi]
  unfold totV riseV
  omega
 ·rw [put_no h]
  simp
end
end
section
section
open Go.RowKit
theorem els_nilP (w:World) (p:Option Addr) (n:Nat):Els w p n []:=⟨fun _=>rfl,fun x hx=>(by cases hx),by simp,fun a _ k x j v hk=>by simp at hk⟩
theorem els_modP {w w':World} {p:Option Addr} {n:Nat} {R:List (List Value)} (h:Els w p n R) {S:Nat→Prop} (hm:Mod S w w') (hs:∀ a,p = some a→R ≠ []→¬ S a.block):Els w' p n R:=by
 by_cases hR:R = []
 ·subst hR; exact els_nilP _ _ _
 ·exact ⟨h.nil,h.len,h.big,fun a ha k x j v hk hj=>hm.cell_of (by have e:(a.add (k * n + j)).block = a.block:=(by unfold Addr.add; split <;> rfl); rw [e]; exact hs a ha hR) (h.cells a ha k x j v hk hj)⟩
def trV (v:Ve) (q:Option Addr × Nat) (n:Nat):List Value:=[.int .i64 (v 0),.int .i64 (v 1),.int .i64 (v 2),.int .i64 (v 3),.int .i64 (v 4),.slice q.1 n q.2]
def trs (fl:List Ve) (rows:List Rou2) (qs:List (Option Addr × Nat)):List (List Value):=(List.range fl.length).map fun i=>trV (fl.getD i ve0) (qs.getD i (none,0)) (rows.getD i []).length
theorem trs_len (fl:List Ve) (rows:List Rou2) (qs:List (Option Addr × Nat)):(trs fl rows qs).length = fl.length:=by simp [trs]
theorem trs_at (fl:List Ve) (rows:List Rou2) (qs:List (Option Addr × Nat)) {i:Nat} (hi:i < fl.length):(trs fl rows qs)[i]? = some (trV (fl.getD i ve0) (qs.getD i (none,0)) (rows.getD i []).length):=by
 simp [trs,hi]
def whM (rows:List Rou2) (r:Int):Option Int:=if 0≤whereP rows r then some (whereP rows r) else none
structure PlanIn (w:World) (F:Nat→Prop) (b gT gM N:Nat) (fl:List Ve) (rows:List Rou2) (t:List Rq) (qT:Option Addr) (dT cT:Nat) (qs:List (Option Addr × Nat)):Prop where
 box:Blk w b #[.slice qT t.length dT,.slice (some ⟨gT,0,none⟩) fl.length cT,.map (some gM)] 88
 req:Els w qT 10 (t.map rqV)
 tb:∃ C,Blk w gT C 84
 tours:Els w (some ⟨gT,0,none⟩) 6 (trs fl rows qs)
 map:MapV Tryz.prog 3 3 w gM N (whM rows)
 row:∀ i,Els w (qs.getD i (none,0)).1 2 ((rows.getD i []).map stV)
 cap:∀ i,(rows.getD i []).length≤(qs.getD i (none,0)).2∧(qs.getD i (none,0)).2≤9223372036854775807
 rowB:∀ i a,(qs.getD i (none,0)).1 = some a→rows.getD i [] ≠ []→F a.block∧a.block ≠ gT∧a.block ≠ gM
 reqB:∀ a,qT = some a→t ≠ []→F a.block∧a.block ≠ gT∧a.block ≠ gM
 fb:F b
 fT:F gT
 fM:F gM
 ne1:b ≠ gT
 ne2:b ≠ gM
 ne3:gT ≠ gM
 lt:∀ k,F k→k < w.heap.size
 len:rows.length = fl.length
 lenq:qs.length = fl.length
 many:fl.length≤4∧fl.length≤cT∧cT≤9223372036854775807
 tcap:t.length≤dT∧dT≤9223372036854775807
def PlanAt (w:World) (F:Nat→Prop) (b gT gM N:Nat) (fl:List Ve) (rows:List Rou2) (t:List Rq):Prop:=∃ qT dT cT qs,PlanIn w F b gT gM N fl rows t qT dT cT qs
theorem PlanIn.mod {w w':World} {F:Nat→Prop} {b gT gM N:Nat} {fl:List Ve} {rows:List Rou2} {t:List Rq} {qT:Option Addr} {dT cT:Nat} {qs:List (Option Addr × Nat)} (h:PlanIn w F b gT gM N fl rows t qT dT cT qs)
  {S:Nat→Prop} (hm:Mod S w w') (hs:∀ k,S k→¬ F k):PlanIn w' F b gT gM N fl rows t qT dT cT qs:=
 ⟨h.box.mod hm (fun s=>hs _ s h.fb),els_modP h.req hm (fun a ha hR s=>hs _ s (h.reqB a ha (fun e=>hR (by rw [e]; rfl))).1),(by obtain ⟨C,hC⟩:=h.tb; exact ⟨C,hC.mod hm (fun s=>hs _ s h.fT)⟩),
  els_modP h.tours hm (fun a ha _ s=>(by cases ha; exact hs _ s h.fT)),h.map.mod hm (fun s=>hs _ s h.fM),fun i=>els_modP (h.row i) hm (fun a ha hR s=>hs _ s (h.rowB i a ha (fun e=>hR (by rw [e]; rfl))).1),h.cap,h.rowB,h.reqB,
  h.fb,h.fT,h.fM,h.ne1,h.ne2,h.ne3,fun k hk=>Nat.lt_of_lt_of_le (h.lt k hk) hm.size,h.len,h.lenq,h.many,h.tcap⟩
theorem PlanAt.mod {w w':World} {F:Nat→Prop} {b gT gM N:Nat} {fl:List Ve} {rows:List Rou2} {t:List Rq} (h:PlanAt w F b gT gM N fl rows t) {S:Nat→Prop} (hm:Mod S w w') (hs:∀ k,S k→¬ F k):PlanAt w' F b gT gM N fl rows t:=by
 obtain ⟨qT,dT,cT,qs,h⟩:=h
 exact ⟨qT,dT,cT,qs,h.mod hm hs⟩
theorem PlanAt.below {w w':World} {F:Nat→Prop} {b gT gM N:Nat} {fl:List Ve} {rows:List Rou2} {t:List Rq} (h:PlanAt w F b gT gM N fl rows t) (hb:Below w.heap.size w w'):PlanAt w' F b gT gM N fl rows t:=
 h.mod ((Mod.refl (fun _=>False) w).after hb) (fun _ h=>h.elim)
theorem exec_lookOk {P:Program} {ρ:Operand→Value} {o:Oper} {w:World} {x y:Operand} {t:TypeId} {b:Nat} {i:Int} {v:Value} (ho:o.op = .lookup t x y true) (hx:ρ x = .map (some b)) (hy:ρ y = .int .i64 i)
  (hrun:(Instr.lookup t (.map (some b)) (.int .i64 i) true).run P w = .ok v w):(execOp ρ o).run P w = .ok (.value v) w:=by
 simp [execOp,ho,hx,hy,hrun,Result.andThen]
theorem where_calls {w:World} {F:Nat→Prop} {b gT gM N:Nat} {fl:List Ve} {rows:List Rou2} {t:List Rq} (h:PlanAt w F b gT gM N fl rows t) (req:Int) (hq:wf64 req):
  Calls Tryz.prog 43 #[.pointer (some ⟨b,0,none⟩),.int .i64 req] w fun e w'=>e = .returned (.int .i64 (whereP rows req))∧w = w':=by
 obtain ⟨qT,dT,cT,qs,h⟩:=h
 have k2:=h.box.cell (i:=2) rfl
 have hl:=Lib.hid (h.map.getOk Tryz.underlying3 Tryz.underlying3 (t:=86) Tryz.underlying86 (by kernel_rfl) hq)
 have hg:=fstI_ge (fun l:Rou2=>l.any (fun s=>s.1 == req)) rows
 change -1≤whereP rows req∧_ at hg
 have hwm:whM rows req = if 0≤whereP rows req then some (whereP rows req) else none:=rfl
 generalize whereP rows req = X at *
 by_cases h0:0≤X
 ·rw [if_pos h0] at hwm
  rw [hwm] at hl
  clear h hwm
  go_enter Tryz.func43,Tryz.ntmps43
  go_wp2_with (refine wpList_v rfl (.tuple #[.int .i64 X,.bool true]) (exec_lookOk rfl rfl rfl hl.out) ?_)
  go_ret
  exact ⟨rfl,rfl⟩
 ·rw [if_neg h0] at hwm
  rw [hwm] at hl
  obtain rfl:X = -1:=by omega
  clear h hwm hg h0
  go_enter Tryz.func43,Tryz.ntmps43
  go_wp2_with (refine wpList_v rfl (.tuple #[.int .i64 0,.bool false]) (exec_lookOk rfl rfl rfl hl.out) ?_)
  go_ret
  exact ⟨rfl,rfl⟩
theorem has_calls {w:World} {F:Nat→Prop} {b gT gM N:Nat} {fl:List Ve} {rows:List Rou2} {t:List Rq} (h:PlanAt w F b gT gM N fl rows t) (req:Int) (hq:wf64 req):
  Calls Tryz.prog 22 #[.pointer (some ⟨b,0,none⟩),.int .i64 req] w fun e w'=>e = .returned (.bool (decide (0≤whereP rows req)))∧w = w':=by
 have hw:=Lib.hid (where_calls h req hq)
 clear h
 generalize whereP rows req = X at *
 go_enter Tryz.func22,Tryz.ntmps22
 go_wp2_with fail
 refine hw.out.mono ?_
 rintro e w1 ⟨rfl,rfl⟩
 go_wp2_with fail
 go_ret
 exact ⟨rfl,rfl⟩
end
section
open Go.RowKit
theorem where_one {fl:List Ve} {rows:List Rou2} {t:List Rq} (hP:PlnOk fl rows t) {i:Nat} {s:Int × Int} (hs:s ∈ rows.getD i []):whereP rows s.1 = i:=by
 by_cases h:whereP rows s.1 < 0
 ·exact absurd rfl (where_getD h hs)
 ·obtain ⟨k,hk,e,s',hs',e'⟩:=where_some (by omega:0≤whereP rows s.1)
  have hk':s' ∈ rows.getD k []:=by rw [List.getD_eq_getElem?_getD,List.getElem?_eq_getElem hk]; exact hs'
  have:=hP.one k i s' s hk' hs e'
  rw [e,this]
theorem whM_some {rows:List Rou2} {r:Int} (h:0≤whereP rows r):whM rows r = some (whereP rows r):=if_pos h
theorem whM_none {rows:List Rou2} {r:Int} (h:whereP rows r < 0):whM rows r = none:=if_neg (by omega)
theorem whM_turn {fl:List Ve} {rows:List Rou2} {t:List Rq} (_hP:PlnOk fl rows t) {i:Nat} {l:Rou2} (hP':PlnOk fl (rows.set i l) t) {req:Int} (hi:i < rows.length) (hs:∀ s:Int × Int,s.1 ≠ req→(s ∈ l↔s ∈ rows.getD i [])) {r:Int} (hr:r ≠ req):whM (rows.set i l) r = whM rows r:=by
 by_cases h:0≤whereP rows r
 ·obtain ⟨k,hk,e,s,hs1,rfl⟩:=where_some h
  have hk':s ∈ rows.getD k []:=by rw [List.getD_eq_getElem?_getD,List.getElem?_eq_getElem hk]; exact hs1
  have hn:s ∈ (rows.set i l).getD k []:=by
   rw [getD_setS]
   by_cases hik:i = k
   ·subst hik
    rw [if_pos ⟨rfl,hi⟩]
    exact (hs s hr).2 hk'
   ·rw [if_neg (fun x=>hik x.1)]
    exact hk'
  have e2:=where_one hP' hn
  rw [whM_some h,whM_some (by omega),e,e2]
 ·by_cases h2:0≤whereP (rows.set i l) r
  ·exfalso
   obtain ⟨k,hk,e,s,hs1,rfl⟩:=where_some h2
   have hk':s ∈ (rows.set i l).getD k []:=by rw [List.getD_eq_getElem?_getD,List.getElem?_eq_getElem hk]; exact hs1
   rw [getD_setS] at hk'
   have h3:s ∈ rows.getD k []:=by
    by_cases hik:i = k
    ·subst hik
     rw [if_pos ⟨rfl,hi⟩] at hk'
     exact (hs s hr).1 hk'
    ·rw [if_neg (fun x=>hik x.1)] at hk'
     exact hk'
   exact where_getD (by omega) h3 rfl
  ·rw [whM_none (by omega),whM_none (by omega)]
theorem whM_put {fl:List Ve} {rows:List Rou2} {t:List Rq} (hP:PlnOk fl rows t) {req:Int} {i a b:Nat} (hi:i < fl.length) (hab:a≤b) (hb:b≤(rows.getD i []).length) (hw:whereP rows req < 0)
  (hP':PlnOk fl (rows.set i (withL (rows.getD i []) req a b)) t):whM (rows.set i (withL (rows.getD i []) req a b)) = fun j=>if j = req then some (i:Int) else whM rows j:=by
 have hir:i < rows.length:=by rw [hP.len]; exact hi
 funext j
 by_cases hj:j = req
 ·subst hj
  rw [if_pos rfl]
  have hn:(j,(0:Int)) ∈ (rows.set i (withL (rows.getD i []) j a b)).getD i []:=by
   rw [getD_setS,if_pos ⟨rfl,hir⟩]
   exact (withL_in hab hb).2 (.inl rfl)
  have:=where_one hP' hn
  rw [whM_some (by dsimp only at this; omega)]
  dsimp only at this
  rw [this]
 ·rw [if_neg hj]
  refine whM_turn hP hP' hir (fun s hs=>?_) hj
  rw [withL_in hab hb]
  constructor
  ·rintro (rfl | rfl | h)
   ·exact absurd rfl hs
   ·exact absurd rfl hs
   ·exact h
  ·exact fun h=>.inr (.inr h)
theorem whM_take {fl:List Ve} {rows:List Rou2} {t:List Rq} (hP:PlnOk fl rows t) {req:Int} {i:Nat} (hi:i < fl.length) (hw:whereP rows req = i)
  (hP':PlnOk fl (rows.set i (woP (rows.getD i []) req)) t):whM (rows.set i (woP (rows.getD i []) req)) = fun j=>if j = req then none else whM rows j:=by
 have hir:i < rows.length:=by rw [hP.len]; exact hi
 funext j
 by_cases hj:j = req
 ·subst hj
  rw [if_pos rfl]
  apply whM_none
  by_cases h2:0≤whereP (rows.set i (woP (rows.getD i []) j)) j
  ·exfalso
   obtain ⟨k,hk,e,s,hs1,rfl⟩:=where_some h2
   have hk':s ∈ (rows.set i (woP (rows.getD i []) s.1)).getD k []:=by rw [List.getD_eq_getElem?_getD,List.getElem?_eq_getElem hk]; exact hs1
   rw [getD_setS] at hk'
   by_cases hik:i = k
   ·subst hik
    rw [if_pos ⟨rfl,hir⟩] at hk'
    exact (woP_mem.1 hk').2 rfl
   ·rw [if_neg (fun x=>hik x.1)] at hk'
    have:=where_one hP hk'
    omega
  ·omega
 ·rw [if_neg hj]
  refine whM_turn hP hP' hir (fun s hs=>?_) hj
  rw [woP_mem]
  exact ⟨fun h=>h.1,fun h=>⟨h,hs⟩⟩
theorem blk_atP {w:World} {b:Nat} {C:Array Value} {t:TypeId} (h:Blk w b C t) (i:Nat):w.cell? ⟨b,i,none⟩ = C[i]?:=by
 unfold Blk at h
 simp [World.cell?,h]
theorem idx_eqP {n k j K J:Nat} (hj:j < n) (hJ:J < n) (e:K * n + J = k * n + j):K = k∧J = j:=by
 have h1:(K * n + J) / n = K:=by
  rw [Nat.mul_comm,Nat.mul_add_div (by omega),Nat.div_eq_of_lt hJ,Nat.add_zero]
 have h2:(k * n + j) / n = k:=by
  rw [Nat.mul_comm,Nat.mul_add_div (by omega),Nat.div_eq_of_lt hj,Nat.add_zero]
 have h3:K = k:=by rw [← h1,← h2,e]
 subst h3
 exact ⟨rfl,by omega⟩
theorem addr0P (g n:Nat):(⟨g,0,none⟩:Addr).add n = ⟨g,n,none⟩:=by unfold Addr.add; split <;> simp_all
theorem els_setP {w:World} {g n:Nat} {E:TypeId} {C:Array Value} {R:List (List Value)} (hB:Blk w g C E) (h:Els w (some ⟨g,0,none⟩) n R) {K J:Nat} (hK:K < R.length) (hJ:J < n) (v:Value):
  Els (w.setCell ⟨g,K * n + J,none⟩ v) (some ⟨g,0,none⟩) n (R.set K (R[K].set J v)):=by
 have hB':=hB.set (K * n + J) v
 have hlK:=h.len _ (List.getElem_mem hK)
 refine ⟨fun e=>(by cases e),fun x hx=>?_,by rw [List.length_set]; exact h.big,fun a ha k x j u hk hj=>?_⟩
 ·rcases List.mem_or_eq_of_mem_set hx with hx | rfl
  ·exact h.len x hx
  ·rw [List.length_set]; exact hlK
 ·cases ha
  have hjn:j < n:=by
   have h1:=(List.getElem?_eq_some_iff.1 hj).1
   rcases List.mem_or_eq_of_mem_set (List.mem_of_getElem? hk) with hx | rfl
   ·rw [h.len x hx] at h1; exact h1
   ·rw [List.length_set,hlK] at h1; exact h1
  rw [addr0P,blk_atP hB',Array.getElem?_setIfInBounds]
  by_cases e:K * n + J = k * n + j
  ·obtain ⟨rfl,rfl⟩:=idx_eqP hjn hJ e
   rw [List.getElem?_set_self hK] at hk
   cases hk
   rw [List.getElem?_set_self (by omega)] at hj
   cases hj
   have h0:=h.cells _ rfl K R[K] J R[K][J] (List.getElem?_eq_getElem hK) (List.getElem?_eq_getElem (by omega))
   rw [addr0P,blk_atP hB] at h0
   rw [if_pos rfl,if_pos (Array.getElem?_eq_some_iff.1 h0).1]
  ·rw [if_neg e]
   by_cases ek:K = k
   ·subst ek
    rw [List.getElem?_set_self hK] at hk
    cases hk
    rw [List.getElem?_set_ne (fun e2=>e (by rw [e2]))] at hj
    have h0:=h.cells _ rfl K R[K] j u (List.getElem?_eq_getElem hK) hj
    rwa [addr0P,blk_atP hB] at h0
   ·rw [List.getElem?_set_ne ek] at hk
    have h0:=h.cells _ rfl k x j u hk hj
    rwa [addr0P,blk_atP hB] at h0
theorem trs_set (fl:List Ve) (rows:List Rou2) (qs:List (Option Addr × Nat)) {i:Nat} (hi:i < fl.length) (hr:rows.length = fl.length) (hq:qs.length = fl.length) (l:Rou2) (q:Option Addr) (d:Nat) (hi':i < (trs fl rows qs).length):
  (trs fl rows qs).set i ((trs fl rows qs)[i].set 5 (.slice q l.length d)) = trs fl (rows.set i l) (qs.set i (q,d)):=by
 apply List.ext_getElem?
 intro j
 have e:=trs_at fl rows qs hi
 rw [List.getElem?_eq_getElem hi'] at e
 rw [Option.some.inj e]
 by_cases hj:j < fl.length
 ·rw [trs_at fl _ _ hj,getD_setS,getD_setS]
  by_cases hij:i = j
  ·subst hij
   rw [List.getElem?_set_self hi',if_pos ⟨rfl,by omega⟩,if_pos ⟨rfl,by omega⟩]
   rfl
  ·rw [List.getElem?_set_ne hij,if_neg (fun x=>hij x.1),if_neg (fun x=>hij x.1),trs_at fl rows qs hj]
 ·rw [List.getElem?_eq_none (by rw [List.length_set,trs_len]; omega),List.getElem?_eq_none (by rw [trs_len]; omega)]
theorem PlanIn.next {w w':World} {F:Nat→Prop} {b gT gM N N':Nat} {fl:List Ve} {rows:List Rou2} {t:List Rq} {qT:Option Addr} {dT cT:Nat} {qs:List (Option Addr × Nat)} (h:PlanIn w F b gT gM N fl rows t qT dT cT qs)
  (hm:Mod (fun k=>k = gT∨k = gM) w w') {i:Nat} {l:Rou2} {q:Option Addr} {d:Nat} (hi:i < fl.length) (hT:Els w' (some ⟨gT,0,none⟩) 6 (trs fl (rows.set i l) (qs.set i (q,d)))) (htb:∃ C,Blk w' gT C 84)
  (hM:MapV Tryz.prog 3 3 w' gM N' (whM (rows.set i l))) (hrow:Els w' q 2 (l.map stV)) (hcap:l.length≤d∧d≤9223372036854775807) (hf:l ≠ []→∀ a,q = some a→w.heap.size≤a.block∧a.block < w'.heap.size):
  PlanIn w' (fun k=>F k∨(w.heap.size≤k∧k < w'.heap.size)) b gT gM N' fl (rows.set i l) t qT dT cT (qs.set i (q,d)):=by
 have hT1:=h.lt gT h.fT
 have hM1:=h.lt gM h.fM
 have hir:i < rows.length:=by rw [h.len]; exact hi
 have hiq:i < qs.length:=by rw [h.lenq]; exact hi
 refine ⟨h.box.mod hm (fun s=>by rcases s with s | s; exact h.ne1 s; exact h.ne2 s),els_modP h.req hm (fun a ha hR s=>by have:=h.reqB a ha (fun e=>hR (by rw [e]; rfl)); rcases s with s | s; exact this.2.1 s; exact this.2.2 s),htb,hT,hM,fun j=>?_,fun j=>?_,fun j a ha hne=>?_,
  fun a ha hne=>⟨.inl (h.reqB a ha hne).1,(h.reqB a ha hne).2⟩,.inl h.fb,.inl h.fT,.inl h.fM,h.ne1,h.ne2,h.ne3,fun k hk=>?_,by rw [List.length_set]; exact h.len,by rw [List.length_set]; exact h.lenq,h.many,h.tcap⟩
 ·rw [getD_setS,getD_setS]
  by_cases hij:i = j
  ·subst hij
   rw [if_pos ⟨rfl,hiq⟩,if_pos ⟨rfl,hir⟩]
   exact hrow
  ·rw [if_neg (fun x=>hij x.1),if_neg (fun x=>hij x.1)]
   exact els_modP (h.row j) hm (fun a ha hR s=>by have:=h.rowB j a ha (fun e=>hR (by rw [e]; rfl)); rcases s with s | s; exact this.2.1 s; exact this.2.2 s)
 ·rw [getD_setS,getD_setS]
  by_cases hij:i = j
  ·subst hij
   rw [if_pos ⟨rfl,hir⟩,if_pos ⟨rfl,hiq⟩]
   exact hcap
  ·rw [if_neg (fun x=>hij x.1),if_neg (fun x=>hij x.1)]
   exact h.cap j
 ·rw [getD_setS] at ha hne
  by_cases hij:i = j
  ·subst hij
   rw [if_pos ⟨rfl,hiq⟩] at ha
   rw [if_pos ⟨rfl,hir⟩] at hne
   have:=hf hne a ha
   exact ⟨.inr this,by omega,by omega⟩
  ·rw [if_neg (fun x=>hij x.1)] at ha
   rw [if_neg (fun x=>hij x.1)] at hne
   have:=h.rowB j a ha hne
   exact ⟨.inl this.1,this.2⟩
 ·rcases hk with hk | hk
  ·exact Nat.lt_of_lt_of_le (h.lt k hk) hm.size
  ·exact hk.2
end
end
section
open Go.RowKit
abbrev W4:=Nat × Wy
def w4P (fl:List Ve) (rows:List Rou2) (t:List Rq) (req:Int):Nat→List W4
 | 0=>[]
 | k + 1=>w4P fl rows t req k ++ (if 14 < (rows.getD k []).length then [] else (wysP (fl.getD k ve0 0) (fl.getD k ve0 1) (fl.getD k ve0 2) (fl.getD k ve0 3) (fl.getD k ve0 4) (rows.getD k []) t req (prs (rows.getD k []).length)).map fun u=>(k,u))
def lst4:W4→List W4→W4
 | b,[]=>b
 | b,x :: r=>lst4 (if x.2.2.2 < b.2.2.2 then x else b) r
def min4:List W4→Option W4
 | []=>none
 | b :: r=>some (lst4 b r)
theorem lst4_append:∀ (l m:List W4) (b:W4),lst4 b (l ++ m) = lst4 (lst4 b l) m
 | [],_,_=>rfl
 | _ :: l,m,_=>lst4_append l m _
theorem lst4_map (k:Nat):∀ (r:List Wy) (b:Wy),lst4 (k,b) (r.map fun u=>(k,u)) = (k,lstW b r)
 | [],_=>rfl
 | x :: r,b=>by
  show lst4 (if x.2.2 < b.2.2 then (k,x) else (k,b)) _ = (k,lstW (if x.2.2 < b.2.2 then x else b) r)
  by_cases h:x.2.2 < b.2.2
  ·rw [if_pos h,if_pos h,lst4_map]
  ·rw [if_neg h,if_neg h,lst4_map]
theorem lst4_cons (a:W4):∀ (r:List W4) (b:W4),lst4 a (b :: r) = if (lst4 b r).2.2.2 < a.2.2.2 then lst4 b r else a
 | [],b=>rfl
 | x :: r,b=>by
  show lst4 (if x.2.2.2 < (if b.2.2.2 < a.2.2.2 then b else a).2.2.2 then x else (if b.2.2.2 < a.2.2.2 then b else a)) r = _
  show _ = if (lst4 (if x.2.2.2 < b.2.2.2 then x else b) r).2.2.2 < a.2.2.2 then lst4 (if x.2.2.2 < b.2.2.2 then x else b) r else a
  have ih:=lst4_cons a r
  by_cases h1:b.2.2.2 < a.2.2.2
  ·rw [if_pos h1]
   by_cases h2:x.2.2.2 < b.2.2.2
   ·rw [if_pos h2]
    have:=ih x
    rw [← this]
    show _ = lst4 (if x.2.2.2 < a.2.2.2 then x else a) r
    rw [if_pos (by omega)]
   ·rw [if_neg h2,← ih b]
    show _ = lst4 (if b.2.2.2 < a.2.2.2 then b else a) r
    rw [if_pos h1]
  ·rw [if_neg h1]
   by_cases h2:x.2.2.2 < b.2.2.2
   ·rw [if_pos h2,← ih x]
    rfl
   ·rw [if_neg h2,← ih b]
    show lst4 (if x.2.2.2 < a.2.2.2 then x else a) r = lst4 (if b.2.2.2 < a.2.2.2 then b else a) r
    rw [if_neg h1,if_neg (by omega)]
def prcW (fl:List Ve) (rows:List Rou2) (t:List Rq) (req:Int):Nat→Option W4
 | 0=>none
 | k + 1=>if (bestV (fl.getD k ve0) (rows.getD k []) t req).2 ≠ 0 then prcW fl rows t req k else
   match prcW fl rows t req k with
   | none=>some (k,(bestV (fl.getD k ve0) (rows.getD k []) t req).1)
   | some p=>if p.2.2.2≤(bestV (fl.getD k ve0) (rows.getD k []) t req).1.2.2 then some p else some (k,(bestV (fl.getD k ve0) (rows.getD k []) t req).1)
theorem prcW_K (fl:List Ve) (rows:List Rou2) (t:List Rq) (req:Int):∀ k,(prcW fl rows t req k).map (fun p=>(p.1,p.2.2.2)) = prcK fl rows t req k∧∀ p,prcW fl rows t req k = some p→p.2 = (bestV (fl.getD p.1 ve0) (rows.getD p.1 []) t req).1
 | 0=>⟨rfl,fun p h=>by cases h⟩
 | k + 1=>by
  obtain ⟨i1,i2⟩:=prcW_K fl rows t req k
  unfold prcW prcK
  by_cases h1:(bestV (fl.getD k ve0) (rows.getD k []) t req).2 ≠ 0
  ·rw [if_pos h1,if_pos h1]
   exact ⟨i1,i2⟩
  ·rw [if_neg h1,if_neg h1,← i1]
   cases hq:prcW fl rows t req k with
   | none=>exact ⟨rfl,fun p h=>by cases h; rfl⟩
   | some p=>
    dsimp only [Option.map_some]
    by_cases h2:p.2.2.2≤(bestV (fl.getD k ve0) (rows.getD k []) t req).1.2.2
    ·rw [if_pos h2,if_pos h2]
     exact ⟨rfl,fun p' h=>i2 p' (by rw [hq]; exact h)⟩
    ·rw [if_neg h2,if_neg h2]
     exact ⟨rfl,fun p h=>by cases h; rfl⟩
theorem best_wys {v:Ve} {l:Rou2} {t:List Rq} {req:Int} (hR:RightV v l t) (hr:0≤req∧req < t.length) (hn:∀ s ∈ l,s.1 ≠ req):
  (14 < l.length→(bestV v l t req).2 ≠ 0)∧(¬ 14 < l.length→match wysP (v 0) (v 1) (v 2) (v 3) (v 4) l t req (prs l.length) with
    | []=>(bestV v l t req).2 ≠ 0
    | b :: r=>bestV v l t req = (lstW b r,0)):=by
 refine ⟨fun h14 h=>?_,fun h14=>?_⟩
 ·obtain ⟨_,_,_,_,h3,_⟩:=best_ok hR hr hn h
  omega
 ·have hc:=rise_code (i:=0) (j:=0) (Nat.le_refl _) (Nat.zero_le _) hr hn (by omega) hR
  have hall:allP (v 0) (v 1) (v 2) (v 3) (v 4) l t req = (wysP (v 0) (v 1) (v 2) (v 3) (v 4) l t req (prs l.length),0):=by
   unfold allP
   exact if_pos hc
  have e:bestV v l t req = match wysP (v 0) (v 1) (v 2) (v 3) (v 4) l t req (prs l.length) with | []=>((0,0,0),12) | b :: r=>(lstW b r,0):=by
   unfold bestV bestP
   rw [hall]
   rfl
  cases hw:wysP (v 0) (v 1) (v 2) (v 3) (v 4) l t req (prs l.length) with
  | nil=>
   rw [hw] at e
   show (bestV v l t req).2 ≠ 0
   rw [e]
   show (12:Int) ≠ 0
   omega
  | cons b r=>
   rw [hw] at e
   exact e
theorem min4_W {fl:List Ve} {rows:List Rou2} {t:List Rq} (hP:PlnOk fl rows t) {req:Int} (hr:0≤req∧req < t.length) (hw:whereP rows req < 0):∀ k,k≤fl.length→min4 (w4P fl rows t req k) = prcW fl rows t req k
 | 0,_=>rfl
 | k + 1,hk=>by
  have ih:=min4_W hP hr hw k (by omega)
  obtain ⟨b1,b2⟩:=best_wys (hP.right k (by omega)) hr (fun s hs=>where_getD hw hs)
  unfold w4P prcW
  by_cases h14:14 < (rows.getD k []).length
  ·rw [if_pos h14,if_pos (b1 h14),List.append_nil,ih]
  ·rw [if_neg h14]
   have b3:=b2 h14
   cases hy:wysP (fl.getD k ve0 0) (fl.getD k ve0 1) (fl.getD k ve0 2) (fl.getD k ve0 3) (fl.getD k ve0 4) (rows.getD k []) t req (prs (rows.getD k []).length) with
   | nil=>
    rw [hy] at b3
    rw [if_pos b3,List.map_nil,List.append_nil,ih]
   | cons b r=>
    rw [hy] at b3
    rw [show bestV (fl.getD k ve0) (rows.getD k []) t req = (lstW b r,0) from b3]
    rw [if_neg (by simp)]
    rw [← ih]
    cases hm:w4P fl rows t req k with
    | nil=>
     show some (lst4 (k,b) (r.map fun u=>(k,u))) = some (k,lstW b r)
     rw [lst4_map]
    | cons a m=>
     show some (lst4 a (m ++ (k,b) :: r.map fun u=>(k,u))) = if (lst4 a m).2.2.2≤(lstW b r).2.2 then some (lst4 a m) else some (k,lstW b r)
     rw [lst4_append,lst4_cons,lst4_map]
     dsimp only
     by_cases h:(lst4 a m).2.2.2≤(lstW b r).2.2
     ·rw [if_pos h,if_neg (by omega)]
     ·rw [if_neg h,if_pos (by omega)]
theorem prc_W {fl:List Ve} {rows:List Rou2} {t:List Rq} {req:Int} (hr:0≤req∧req < t.length) (hw:whereP rows req < 0):
  prcP fl rows t req = match prcW fl rows t req fl.length with | none=>(0,0,12) | some p=>((p.1:Int),p.2.2.2,0):=by
 unfold prcP
 rw [if_neg (by omega),if_neg (by omega),← (prcW_K fl rows t req fl.length).1]
 cases prcW fl rows t req fl.length with
 | none=>rfl
 | some p=>rfl
theorem put_W {fl:List Ve} {rows:List Rou2} {t:List Rq} {req:Int} (hP:PlnOk fl rows t) (hr:0≤req∧req < t.length) (hw:whereP rows req < 0) {p:W4} (hp:prcW fl rows t req fl.length = some p):
  ∃ a b:Nat,p.2.1 = (a:Int)∧p.2.2.1 = (b:Int)∧a≤b∧b≤(rows.getD p.1 []).length∧(rows.getD p.1 []).length≤14∧p.1 < fl.length∧pputP fl rows t req = (rows.set p.1 (withL (rows.getD p.1 []) req a b),p.2.2.2,0):=by
 have h1:=prc_W (fl:=fl) hr hw
 rw [hp] at h1
 dsimp only at h1
 have h2:=(prcW_K fl rows t req fl.length).2 p hp
 have h0:(prcP fl rows t req).2.2 = 0:=by rw [h1]
 obtain ⟨i,hi,_,_,hb,e⟩:=prc_ok h0
 rw [h1] at e
 have hi2:i = p.1:=by
  have:(p.1:Int) = (i:Int):=congrArg (fun x=>x.1) e
  omega
 subst hi2
 obtain ⟨a,b,hab,hbl,hl14,hR,e2,h4,_⟩:=best_ok (hP.right p.1 hi) hr (fun s hs=>where_getD hw hs) hb
 rw [← h2] at e2
 refine ⟨a,b,by rw [e2],by rw [e2],hab,hbl,hl14,hi,?_⟩
 have hc:cputV (fl.getD p.1 ve0) (rows.getD p.1 []) t req = (withL (rows.getD p.1 []) req a b,p.2.2.2,0):=by
  unfold cputV cputP
  unfold bestV at hb
  have h2':(bestP (fl.getD p.1 ve0 0) (fl.getD p.1 ve0 1) (fl.getD p.1 ve0 2) (fl.getD p.1 ve0 3) (fl.getD p.1 ve0 4) (rows.getD p.1 []) t req).1 = p.2:=h2.symm
  rw [if_neg (by omega),h2',e2]
  dsimp only
  rw [withP_some hab hbl hr.1 (fun s hs=>where_getD hw hs) hl14]
  rfl
 unfold pputP
 rw [h1]
 dsimp only
 rw [if_neg (by simp),Int.toNat_natCast,hc]
theorem put_W0 {fl:List Ve} {rows:List Rou2} {t:List Rq} {req:Int} (hr:0≤req∧req < t.length) (hw:whereP rows req < 0) (hp:prcW fl rows t req fl.length = none):pputP fl rows t req = (rows,0,12):=by
 have h1:=prc_W (fl:=fl) hr hw
 rw [hp] at h1
 dsimp only at h1
 have h2:=put_no (fl:=fl) (rows:=rows) (t:=t) (req:=req) (by rw [h1]; simp)
 rw [h2,h1]
end
end Go.Proofs.YtkaoflndbcfodaaGreat
