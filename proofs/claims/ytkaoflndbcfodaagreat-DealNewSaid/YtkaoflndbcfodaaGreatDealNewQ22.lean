/-
  The row 'DealNew': a pack of the texts R14, pruned to what the row uses.
-/
import Derived.Test.YtkaoflndbcfodaaGreatDealNewQ15
import Derived.Test.YtkaoflndbcfodaaGreatDealNewQ21
namespace Go.Proofs.YtkaoflndbcfodaaGreat
set_option maxHeartbeats 8000000
set_option maxRecDepth 100000
section
section
open Go.RowKit
structure RwIn (w:World) (q:Option Addr) (rows:List Rou2) (qs:List (Option Addr × Nat)):Prop where
 rws:Els w q 1 (rsV rows qs rows.length)
 row:∀ i,i < rows.length→Els w (qs.getD i (none,0)).1 2 ((rows.getD i []).map stV)
 cap:∀ i,i < rows.length→(rows.getD i []).length≤(qs.getD i (none,0)).2∧(qs.getD i (none,0)).2≤9223372036854775807
theorem RwIn.below {w w':World} {q:Option Addr} {rows:List Rou2} {qs:List (Option Addr × Nat)} (h:RwIn w q rows qs) (hb:Below w.heap.size w w'):RwIn w' q rows qs:=
 ⟨h.rws.below hb,fun i hi=>(h.row i hi).below hb,h.cap⟩
section
variable {ρ:Operand→Value} {o:Oper} {w:World} {x y z:Operand}
theorem run_call14 {F:FuncId} {T1 T2 T3:TypeId} {a b c:Value} (ho:o.op = .call { callee:=.value (.func F),args:=#[x,y,z],argTypes:=#[T1,T2,T3] }) (hx:ρ x = a) (hy:ρ y = b) (hz:ρ z = c)
  (hF:(callFunc F #[a,b,c]).run Tryz.prog w = .ok (.enter F #[a,b,c]) w) (hf:ρ (.func F) = .func (.func F) #[] #[]:=by rfl):(execOp ρ o).run Tryz.prog w = .ok (.enter F #[a,b,c]) w:=by
 unfold execOp
 simp only [ho]
 go_simp
theorem run_ixVe14 {a:Addr} {n c k:Nat} (ho:o.op = .indexAddr 60 x y) (hx:ρ x = .slice (some a) n c) (hy:ρ y = .int .i64 k) (hk:k < n):(execOp ρ o).run Tryz.prog w = .ok (.value (.pointer (some (a.add (k * 5))))) w:=by
 have h0:(0:Int)≤(k:Int):=by omega
 have h1:(k:Int) < (n:Int):=by omega
 have h2:((k:Int)).toNat = k:=by omega
 unfold execOp
 simp only [ho,hx,hy]
 go_simp
theorem run_allocF14 (ho:o.op = .alloc 198):(execOp ρ o).run Tryz.prog w = .ok (.value (.pointer (some ⟨w.heap.size,0,none⟩))) (w.alloc (.cells #[.int .i64 0,.int .i64 0,.int .i64 0] 198)):=by
 unfold execOp
 simp only [ho]
 kernel_rfl
theorem getD_mem14 {α:Type} {l:List α} {m:Nat} {d:α} (h:m < l.length):l.getD m d ∈ l:=by
 rw [List.getD_eq_getElem?_getD,List.getElem?_eq_getElem h]
 exact List.getElem_mem h
theorem getD_at14 {α:Type} {l:List α} {m:Nat} {d:α} (h:m < l.length):l.getD m d = l[m]:=by
 rw [List.getD_eq_getElem?_getD,List.getElem?_eq_getElem h]
 rfl
theorem run_row14 {p:Addr} {q:Option Addr} {n c:Nat} (h:w.cell? p = some (.slice q n c)):(loadVar 82 p).run Tryz.prog w = .ok (.slice q n c) w:=by go_simp
end
theorem at6_no (p:Option Addr) (cap:Nat) (l:List (Int × Int)) (req:Int) (w:World) (hE:Els w p 2 (l.map stV)) (hn:∀ s ∈ l,s.1 ≠ req):
  Calls Tryz.prog 131 #[.slice p l.length cap,.int .i64 req] w fun e w'=>e = .returned (.tuple #[.int .i64 (-1),.int .i64 (-1)])∧w = w':=by
 have hbig:l.length≤140737488351232:=by simpa using hE.big
 replace hE:=Lib.hid hE
 replace hn:=Lib.hid hn
 have s0:IntKind.i64.wrap ((l.length:Int) - 1) = (l.length:Int) - 1:=IntWalk.i64_in _ (by omega)
 go_enter Tryz.func131,Tryz.ntmps131
 go_wp2_with fail
 go_loop [6,7,8] (fun a b i=>∃ k:Int,-1≤k∧k < (l.length:Int)∧i = .int .i64 k∧a = .int .i64 (-1)∧b = .int .i64 (-1)) (fun _ _ i=>(intOf i + 1).toNat)
 case atStart=>exact ⟨(l.length:Int) - 1,by omega,by omega,rfl,rfl,rfl⟩
 case round=>
  clear s0
  obtain ⟨k,h1,h2,rfl,rfl,rfl⟩:=hrel
  by_cases h0:0≤k
  ·obtain ⟨n,rfl⟩:=Int.eq_ofNat_of_zero_le h0
   have hlt:n < l.length:=by omega
   obtain ⟨a,rfl⟩:=hE.out.some_of (k:=n) (by simpa using hlt)
   have e0:=hE.out.one (a:=a) rfl (k:=n) (by simpa using hlt) 0 (.int .i64 (l[n].1)) (by rw [List.getElem_map]; rfl)
   have hne:(l[n].1 == req) = false:=beq_eq_false_iff_ne.2 (hn.out _ (List.getElem_mem hlt))
   rw [addr9_0] at e0
   have s1:IntKind.i64.wrap ((n:Int) - 1) = (n:Int) - 1:=IntWalk.i64_in _ (by omega)
   generalize l[n].1 = r at e0 hne
   go_wp2_with fail
   go_round
   case rel=>exact ⟨(n:Int) - 1,by omega,by omega,rfl,rfl,rfl⟩
   case measure=>simp [intOf]
  ·obtain rfl:k = -1:=by omega
   go_wp2_with fail
   go_ret2
   exact ⟨rfl,rfl⟩
theorem in14_no (p:Option Addr) (cap:Nat) (l:List (Int × Int)) (req:Int) (w:World) (hE:Els w p 2 (l.map stV)) (hn:∀ s ∈ l,s.1 ≠ req):
  Calls Tryz.prog 108 #[.slice p l.length cap,.int .i64 req] w fun e w'=>e = .returned (.bool false)∧w = w':=by
 have hc:=Lib.hid (at6_no p cap l req w hE hn)
 clear hE hn
 go_enter Tryz.func108,Tryz.ntmps108
 go_wp2_with fail
 refine hc.out.mono ?_
 rintro e w1 ⟨rfl,rfl⟩
 go_wp2_with fail
 go_ret
 exact ⟨rfl,rfl⟩
theorem may14_calls {fl:List Ve} {rows:List Rou2} {t:List Rq} (hP:PlnOk fl rows t) (qF q qT:Option Addr) (cF c cT:Nat) (qs:List (Option Addr × Nat)) (w:World) (hF:Els w qF 5 (fl.map veR)) (hR:RwIn w q rows qs) (hT:Els w qT 10 (t.map rqV)):
  Calls Tryz.prog 107 #[.slice qF fl.length cF,.slice q fl.length c,.slice qT t.length cT] w fun e w'=>e = .returned (.bool true)∧Below w.heap.size w w':=by
 have hN:=hP.many
 have hlen:=hP.len
 obtain ⟨aV,rfl⟩:=hF.some_of (k:=0) (by rw [List.length_map]; omega)
 obtain ⟨aR,rfl⟩:=hR.rws.some_of (k:=0) (by rw [rsV_size]; omega)
 have hck:=Lib.hid (fun k (hk:k < fl.length) wx (hb:Below w.heap.size w wx)=>(by
  have hr:=hP.right k hk
  have h1:=hr.1
  have:=check9_calls hr.1 hr.2.1 hr.2.2.1 hr.2.2.2.1 hr.2.2.2.2.1 (qs.getD k (none,0)).1 qT (qs.getD k (none,0)).2 cT wx ((hR.row k (by omega)).below hb) (hR.cap k (by omega)) (hT.below hb)
  refine this.mono ?_
  rintro e w' ⟨h1,h2 | h2⟩
  ·exact ⟨h2.2,h1⟩
  ·exact absurd hr h2.1:Calls Tryz.prog 109 #[.agg (veR (fl.getD k ve0)).toArray,.slice (qs.getD k (none,0)).1 (rows.getD k []).length (qs.getD k (none,0)).2,.slice qT t.length cT] wx fun e w'=>e = .returned (.agg #[.int .i64 0,.int .i64 0,.int .i64 0])∧Below wx.heap.size wx w'))
 have hvl:=Lib.hid (fun k (hk:k < fl.length) wx (hb:Below w.heap.size w wx)=>(by
  have:=(hF.below hb).load (P:=Tryz.prog) (a:=aV) rfl (k:=k) (by simpa using hk) (ty:=59) Tryz.underlying59 rfl (by kernel_rfl)
  rw [List.getElem_map] at this
  rw [List.getD_eq_getElem?_getD,List.getElem?_eq_getElem hk]
  exact this:(loadVar 59 (aV.add (k * 5))).run Tryz.prog wx = .ok (.agg (veR (fl.getD k ve0)).toArray) wx))
 have hrl:=Lib.hid (fun k (hk:k < fl.length) wx (hb:Below w.heap.size w wx)=>rs_cell (hR.rws) ((Mod.refl (fun _=>False) _).after hb) (k:=k) (by omega))
 have hin:=Lib.hid (fun k j m (hk:k < fl.length) (hj:j < k) (hm:m < (rows.getD k []).length) wx (hb:Below w.heap.size w wx)=>in14_no (qs.getD j (none,0)).1 (qs.getD j (none,0)).2 (rows.getD j []) ((rows.getD k []).getD m (0,0)).1 wx ((hR.row j (by omega)).below hb) (fun s hs e=>by
  have:=hP.one j k s ((rows.getD k []).getD m (0,0)) hs (getD_mem14 hm) e
  omega))
 have hsl:=Lib.hid (fun k m (hk:k < fl.length) (hm:m < (rows.getD k []).length) wx (hb:Below w.heap.size w wx)=>(by
  obtain ⟨a,ha⟩:=(hR.row k (by omega)).some_of (k:=m) (by simpa using hm)
  refine ⟨a,ha,?_⟩
  have:=((hR.row k (by omega)).below hb).one (a:=a) ha (k:=m) (by simpa using hm) 0 (.int .i64 ((rows.getD k []).getD m (0,0)).1) (by rw [List.getElem_map,getD_at14 hm]; rfl)
  exact this:∃ a,(qs.getD k (none,0)).1 = some a∧wx.cell? ((a.add (m * 2)).add 0) = some (.int .i64 ((rows.getD k []).getD m (0,0)).1)))
 have hr16:=Lib.hid (fun k (hk:k < fl.length)=>(hP.right k hk).2.2.1)
 clear hP hF hR hT hlen
 obtain ⟨N,hNN⟩:∃ N,fl.length = N:=⟨_,rfl⟩
 obtain ⟨T,hTT⟩:∃ T,t.length = T:=⟨_,rfl⟩
 rw [hNN] at hN hck hvl hrl hin hsl hr16 ⊢
 rw [hTT] at hck ⊢
 obtain ⟨hN1,hN4⟩:=hN
 clear hNN hTT
 go_enter Tryz.func107,Tryz.ntmps107
 go_wp2_with fail
 go_loopw [7] (fun i wr=>∃ k:Nat,k≤N∧i = .int .i64 k∧Below w.heap.size w wr) (fun i _=>N - (intOf i).toNat)
 case atStart=>exact ⟨0,Nat.zero_le _,rfl,Below.refl _ _⟩
 case round=>
  obtain ⟨k,hk,rfl,hb⟩:=hrel
  by_cases hlt:k < N
  ·have hltI:(k:Int) < (N:Int):=by omega
   have hk0:(0:Int)≤(k:Int):=by omega
   have s1:IntKind.i64.wrap ((k:Int) + 1) = (k:Int) + 1:=IntWalk.i64_in _ (by omega)
   have hck1:=Lib.hid (fun wx (h:Below w.heap.size w wx)=>hck.out k hlt wx h)
   have hvl1:=Lib.hid (fun wx (h:Below w.heap.size w wx)=>hvl.out k hlt wx h)
   have hrl1:=Lib.hid (fun wx (h:Below w.heap.size w wx)=>run_row14 (hrl.out k hlt wx h))
   have hr1:=hr16.out k hlt
   have hin1:=Lib.hid (fun j m (hj:j < k) hm wx (h:Below w.heap.size w wx)=>hin.out k j m hlt hj hm wx h)
   have hsl1:=Lib.hid (fun m hm wx (h:Below w.heap.size w wx)=>hsl.out k m hlt hm wx h)
   have hb0:=Lib.hid hb
   obtain ⟨Y,hY⟩:∃ Y,(veR (fl.getD k ve0)).toArray = Y:=⟨_,rfl⟩
   rw [hY] at hck1 hvl1
   clear hY
   generalize (qs.getD k (none,0)).2 = dk at *
   generalize (qs.getD k (none,0)).1 = qk at *
   have hrows:∀ j,j < k→∃ (qj:Option Addr) (nj dj:Nat),(∀ wx,Below w.heap.size w wx→(loadVar 82 (aR.add j)).run Tryz.prog wx = .ok (.slice qj nj dj) wx)∧∀ m,m < (rows.getD k []).length→∀ wx,Below w.heap.size w wx→Calls Tryz.prog 108 #[.slice qj nj dj,.int .i64 ((rows.getD k []).getD m (0,0)).1] wx fun e w'=>e = .returned (.bool false)∧wx = w':=
    fun j hj=>⟨_,_,_,fun wx h=>run_row14 (hrl.out j (by omega) wx h),fun m hm wx h=>hin1.out j m hj hm wx h⟩
   replace hrows:=Lib.hid hrows
   generalize rows.getD k [] = L at *
   obtain ⟨ln,hln⟩:∃ ln,L.length = ln:=⟨_,rfl⟩
   rw [hln] at hck1 hrl1 hr1 hsl1
   replace hln:=Lib.hid hln
   clear hin1 hb
   go_upto_region 6 with fail
   refine wp_region_rove (X:=Nat) 0 (fun x=>[(32,.slice (some aV) N cF),(33,.int .i64 (k:Int)),(34,.pointer (some (aV.add (k * 5)))),(35,.agg Y),(36,.slice (some aR) N c),(37,.int .i64 (k:Int)),(38,.pointer (some (aR.add k))),(39,.slice qk ln dk),(40,.slice qT T cT),(41,.agg #[.int .i64 0,.int .i64 0,.int .i64 0]),(8,.pointer (some ⟨x,0,none⟩))])
    (fun x d W'=>ClB #[.int .i64 0,.int .i64 0,.int .i64 0] #[.int .i64 0,.int .i64 0,.int .i64 0] 198 wr x (d 10) (d 11) W') (by kernel_rfl) (by kernel_rfl) (by kernel_rfl) (by kernel_rfl) (fun x=>by kernel_rfl)
    ⟨(Mod.refl _ _).drew,(fun h=>by cases h)⟩ ?_ ?_
   ·intro aF hAF
    have E0:∀ x,(aF x).eval (.tmp 0) = .slice (some aV) N cF:=by intro x; rw [hAF]; kernel_rfl
    have E1:∀ x,(aF x).eval (.tmp 1) = .slice (some aR) N c:=by intro x; rw [hAF]; kernel_rfl
    have E2:∀ x,(aF x).eval (.tmp 2) = .slice qT T cT:=by intro x; rw [hAF]; kernel_rfl
    have E7:∀ x,(aF x).eval (.tmp 7) = .int .i64 (k:Int):=by intro x; rw [hAF]; kernel_rfl
    have T32:∀ x,(aF x).tmps[32]? = some (.slice (some aV) N cF):=by intro x; rw [hAF]; kernel_rfl
    have T33:∀ x,(aF x).tmps[33]? = some (.int .i64 (k:Int)):=by intro x; rw [hAF]; kernel_rfl
    have T34:∀ x,(aF x).tmps[34]? = some (.pointer (some (aV.add (k * 5)))):=by intro x; rw [hAF]; kernel_rfl
    have T35:∀ x,(aF x).tmps[35]? = some (.agg Y):=by intro x; rw [hAF]; kernel_rfl
    have T36:∀ x,(aF x).tmps[36]? = some (.slice (some aR) N c):=by intro x; rw [hAF]; kernel_rfl
    have T37:∀ x,(aF x).tmps[37]? = some (.int .i64 (k:Int)):=by intro x; rw [hAF]; kernel_rfl
    have T38:∀ x,(aF x).tmps[38]? = some (.pointer (some (aR.add k))):=by intro x; rw [hAF]; kernel_rfl
    have T39:∀ x,(aF x).tmps[39]? = some (.slice qk ln dk):=by intro x; rw [hAF]; kernel_rfl
    have T40:∀ x,(aF x).tmps[40]? = some (.slice qT T cT):=by intro x; rw [hAF]; kernel_rfl
    have T41:∀ x,(aF x).tmps[41]? = some (.agg #[.int .i64 0,.int .i64 0,.int .i64 0]):=by intro x; rw [hAF]; kernel_rfl
    have T8:∀ x,(aF x).tmps[8]? = some (.pointer (some ⟨x,0,none⟩)):=by intro x; rw [hAF]; kernel_rfl
    replace hAF:=Lib.hid hAF
    refine ⟨?_,?_,?_,?_,?_,?_,?_,?_,?_,?_,?_,?_,trivial⟩
    ·exact oq T32 rfl rfl fun x d w' hd hc=>sv (run_mov rfl (E0 x)) hc
    ·exact oq T33 rfl rfl fun x d w' hd hc=>sv (run_mov rfl (E7 x)) hc
    ·exact oq T34 rfl rfl fun x d w' hd hc=>sv (run_ixVe14 rfl (ev T32 x) (ev T33 x) hlt) hc
    ·exact oq T35 rfl rfl fun x d w' hd hc=>sv (run_load1 rfl (ev T34 x) (hvl1.out _ (hb0.out.trans (hc.m.below hb0.out.size (fun _ h=>h.elim))))) hc
    ·exact oq T36 rfl rfl fun x d w' hd hc=>sv (run_mov rfl (E1 x)) hc
    ·exact oq T37 rfl rfl fun x d w' hd hc=>sv (run_mov rfl (E7 x)) hc
    ·exact oq T38 rfl rfl fun x d w' hd hc=>sv (run_ixRs rfl (ev T36 x) (ev T37 x) hlt) hc
    ·exact oq T39 rfl rfl fun x d w' hd hc=>sv (run_load1 rfl (ev T38 x) (hrl1.out _ (hb0.out.trans (hc.m.below hb0.out.size (fun _ h=>h.elim))))) hc
    ·exact oq T40 rfl rfl fun x d w' hd hc=>sv (run_mov rfl (E2 x)) hc
    ·exact oq T41 rfl rfl fun x d w' hd hc=>sc (run_call14 rfl (ev T35 x) (ev T39 x) (ev T40 x) (by kernel_rfl)) ((hck1.out w' (hb0.out.trans (hc.m.below hb0.out.size (fun _ h=>h.elim)))).mono fun e w'' h=>⟨h.1,hc.mod ((Mod.refl _ _).after h.2)⟩)
    ·exact opOk3_loud rfl fun x d w' hd hn hc=>by
       have n4:d 11 = false:=hn 11 (by kernel_rfl)
       rw [n4] at hc
       refine sk_v (run_allocF14 rfl) ?_
       refine ⟨w'.heap.size,(by rw [hAF.out]; exact agree_set 10 (8,.pointer (some ⟨x,0,none⟩)) rfl (by kernel_rfl)),(by intro t hd _; cases hd; exact T8 _),?_⟩
       show ClB _ _ _ wr _ true (d 11) _
       rw [n4]
       exact hc.box
    ·exact opOk3_loud rfl fun x d w' hd hn hc=>by
       have n2:d 10 = true:=hd 10 (by kernel_rfl)
       rw [n2] at hc
       refine sk_s (run_storeP (ty:=198) rfl (ev T8 x) (ev T41 x) (run_storeVar_row w' x 198 _ #[.int .i64 0,.int .i64 0,.int .i64 0] 198 (hc.x0 rfl).1 (by cases d 11 <;> rfl) (fa_one _ _ _) (by kernel_rfl))) ⟨x,agree_same _ _,(by intro t hd _; cases hd),?_⟩
       show ClB _ _ _ wr _ (d 10) true _
       rw [n2]
       exact hc.put
   ·intro x d w' hd hc
    simp only [putAll,List.foldl_cons,List.foldl_nil,Act.put,List.setIfInBounds_toArray,List.set_cons_succ,List.set_cons_zero]
    rw [hd 10 (by decide),hd 11 (by decide)] at hc
    obtain ⟨hF,-⟩:=hc.x0 rfl
    have hF:Blk w' x #[.int .i64 0,.int .i64 0,.int .i64 0] 198:=hF
    have hb6:=Lib.hid (hb0.out.trans (hc.m.below hb0.out.size (fun _ h=>h.elim)))
    have k6:=hF.cell (i:=0) (v:=.int .i64 0) rfl
    clear hc hd hF hb0
    go_wp2_with fail
    clear k6
    go_loopw [9] (fun i wx=>∃ m:Nat,m≤ln∧i = .int .i64 m∧Below w.heap.size w wx) (fun i _=>ln - (intOf i).toNat)
    case atStart=>exact ⟨0,Nat.zero_le _,rfl,hb6.out⟩
    case round=>
     clear hb6
     obtain ⟨m,hm,rfl,hb⟩:=hrel
     by_cases hlt2:m < ln
     ·have hltJ:(m:Int) < (ln:Int):=by omega
      have s2:IntKind.i64.wrap ((m:Int) + 1) = (m:Int) + 1:=IntWalk.i64_in _ (by omega)
      have hl2:=Lib.hid (hrl1.out _ hb)
      go_wp2_with (first | (refine wpList_v rfl (.pointer (some (aR.add k))) (run_ixRs (k:=k) rfl rfl rfl hlt) ?_) | (refine wpList_load_v rfl 82 _ rfl (aR.add k) rfl _ hl2.out ?_))
      clear hl2
      go_loopw [10] (fun i wx=>∃ j:Nat,j≤k∧i = .int .i64 j∧Below w.heap.size w wx) (fun i _=>k - (intOf i).toNat)
      case atStart=>exact ⟨0,Nat.zero_le _,rfl,hb⟩
      case round=>
       clear hb
       obtain ⟨j,hj,rfl,hb⟩:=hrel
       by_cases hlt3:j < k
       ·have hltK:(j:Int) < (k:Int):=by omega
        have s3:IntKind.i64.wrap ((j:Int) + 1) = (j:Int) + 1:=IntWalk.i64_in _ (by omega)
        obtain ⟨qj,nj,dj,r1,r2⟩:=hrows.out j hlt3
        have hmL:m < L.length:=by rw [hln.out]; exact hlt2
        have hq:=fun wx h=>r2 m hmL wx h
        have hs:=fun wx h=>hsl1.out m hlt2 wx h
        obtain ⟨a,ha,-⟩:=hs _ hb
        subst ha
        generalize (L.getD m (0,0)).1 = rq at hq hs
        have hbz:=Lib.hid (fun z:Later (fun _=>False) wr=>hb.trans (z.mod.below hb.size (fun _ h=>h.elim)))
        have hcz:=Lib.hid (fun z:Later (fun _=>False) wr=>(by
         obtain ⟨a',ha',h⟩:=hs z.val (hbz.out z)
         cases ha'
         exact run_i64S9 h:(loadVar 3 ((a.add (m * 2)).add 0)).run Tryz.prog z.val = .ok (.int .i64 rq) z.val))
        have hrz:=Lib.hid (fun z:Later (fun _=>False) wr=>r1 z.val (hbz.out z))
        have hkz:=Lib.hid (fun z:Later (fun _=>False) wr=>hrl1.out z.val (hbz.out z))
        have hqz:=Lib.hid (fun z:Later (fun _=>False) wr=>(hq z.val (hbz.out z)).mono (fun e w' h=>(⟨h.1,by rw [← h.2]; exact Below.refl _ _⟩:e = .returned (.bool false)∧Below z.val.heap.size z.val w')))
        have hjN:j < N:=by omega
        clear r1 r2 hq hs hb
        go_upto_region 15 with fail
        refine wp_region_later (w0:=wr) (S:=fun _=>False) (Mod.refl _ _) (by kernel_rfl) (by kernel_rfl) ?_
        iterate 2 (go_big_quiet_step (fail))
        refine wpQuiet_v rfl (.pointer (some (aR.add j))) (by rintro _ ⟨z,rfl⟩; exact run_ixRs rfl rfl rfl hjN) ?_
        simp only [Act.put,List.setIfInBounds_toArray,List.set_cons_succ,List.set_cons_zero]
        refine wpQuiet_v rfl (.slice qj nj dj) (by rintro _ ⟨z,rfl⟩; exact run_load_v rfl rfl (hrz.out z)) ?_
        simp only [Act.put,List.setIfInBounds_toArray,List.set_cons_succ,List.set_cons_zero]
        iterate 2 (go_big_quiet_step (fail))
        refine wpQuiet_v rfl (.pointer (some (aR.add k))) (by rintro _ ⟨z,rfl⟩; exact run_ixRs rfl rfl rfl hlt) ?_
        simp only [Act.put,List.setIfInBounds_toArray,List.set_cons_succ,List.set_cons_zero]
        refine wpQuiet_v rfl (.slice (some a) ln dk) (by rintro _ ⟨z,rfl⟩; exact run_load_v rfl rfl (hkz.out z)) ?_
        simp only [Act.put,List.setIfInBounds_toArray,List.set_cons_succ,List.set_cons_zero]
        go_big_quiet_step (fail)
        refine wpQuiet_v rfl (.pointer (some (a.add (m * 2)))) (by rintro _ ⟨z,rfl⟩; exact run_ixSt9 rfl rfl rfl hlt2) ?_
        simp only [Act.put,List.setIfInBounds_toArray,List.set_cons_succ,List.set_cons_zero]
        refine wpQuiet_v rfl (.pointer (some ((a.add (m * 2)).add 0))) (by rintro _ ⟨z,rfl⟩; exact run_fldS9 rfl rfl) ?_
        simp only [Act.put,List.setIfInBounds_toArray,List.set_cons_succ,List.set_cons_zero]
        refine wpQuiet_v rfl (.int .i64 rq) (by rintro _ ⟨z,rfl⟩; exact run_load_v rfl rfl (hcz.out z)) ?_
        simp only [Act.put,List.setIfInBounds_toArray,List.set_cons_succ,List.set_cons_zero]
        go_big_quiet_step (((go_at_call 108; with_reducible exact Calls.later (hqz.out _))))
        refine wpQuiet_nil ?_
        rintro _ ⟨z,rfl⟩
        have hb:=hbz.out z
        clear hbz hcz hrz hkz hqz
        generalize z.val = w8 at *
        clear z
        go_wp2_with fail
        go_roundw
        case rel=>exact ⟨j + 1,by omega,by simp,hb⟩
        case measure=>simp [intOf]; omega
       ·obtain rfl:j = k:=by omega
        go_wp2_with fail
        go_roundw
        case rel=>exact ⟨m + 1,by omega,by simp,hb⟩
        case measure=>simp [intOf]; omega
     ·obtain rfl:m = ln:=by omega
      have hl2:=Lib.hid (hrl1.out _ hb)
      go_wp2_with (first | (refine wpList_v rfl (.pointer (some (aR.add k))) (run_ixRs (k:=k) rfl rfl rfl hlt) ?_) | (refine wpList_load_v rfl 82 _ rfl (aR.add k) rfl _ hl2.out ?_))
      go_roundw
      case rel=>exact ⟨k + 1,by omega,by simp,hb⟩
      case measure=>simp [intOf]; omega
  ·obtain rfl:k = N:=by omega
   go_wp2_with fail
   go_ret
   exact ⟨rfl,hb⟩
end
section
open Go.RowKit
def w4V (u:W4):List Value:=[.int .i64 (u.1:Int),.int .i64 u.2.1,.int .i64 u.2.2.1,.int .i64 u.2.2.2]
theorem w4V_len (L:List W4):∀ x ∈ L.map w4V,x.length = 4:=by
 intro x hx
 obtain ⟨s,_,rfl⟩:=List.mem_map.1 hx
 rfl
theorem w4_one (u:W4):∀ v ∈ w4V u,v.oneCell' = true:=by simp [w4V,Value.oneCell']
theorem w4_el:ElT Tryz.prog 175 150 4 32:=⟨Tryz.underlying175,by kernel_rfl,by kernel_rfl,by kernel_rfl,by omega,by omega⟩
theorem run_bw14 (a b c d:Int) (w:World):(Instr.build 150 #[(0,.int .i64 a),(1,.int .i64 b),(2,.int .i64 c),(3,.int .i64 d)]).run Tryz.prog w = .ok (.agg #[.int .i64 a,.int .i64 b,.int .i64 c,.int .i64 d]) w:=by kernel_rfl
theorem rsl_w14 (a b c d:Int) (w:World):(Instr.buildSlice 175 1 #[(0,.agg #[.int .i64 a,.int .i64 b,.int .i64 c,.int .i64 d])]).run Tryz.prog w = .ok (.slice (some ⟨w.heap.size,0,none⟩) 1 1) (w.alloc (.cells #[.int .i64 a,.int .i64 b,.int .i64 c,.int .i64 d] 150)):=by kernel_rfl
section
variable {ρ:Operand→Value} {o:Oper} {w:World} {x y z u:Operand}
theorem run_sub14 {m n k:Int} (hk:IntKind.i64.wrap (m - n) = k) (ho:o.op = .binOp .sub 3 x y 3) (hx:ρ x = .int .i64 m) (hy:ρ y = .int .i64 n):(execOp ρ o).run Tryz.prog w = .ok (.value (.int .i64 k)) w:=by
 subst hk
 unfold execOp
 simp only [ho,hx,hy]
 go_simp
theorem run_bldA14 {ty:TypeId} {a b c d v:Value} (ho:o.op = .build ty #[(0,x),(1,y),(2,z),(3,u)]) (hx:ρ x = a) (hy:ρ y = b) (hz:ρ z = c) (hu:ρ u = d) (hr:(Instr.build ty #[(0,a),(1,b),(2,c),(3,d)]).run Tryz.prog w = .ok v w):(execOp ρ o).run Tryz.prog w = .ok (.value v) w:=by
 unfold execOp
 simp only [ho,List.map_toArray,List.map_cons,List.map_nil,hx,hy,hz,hu,Sem.run_bind,hr,Sem.run_pure,Result.andThen_ok]
end
theorem w14_right {v:Ve} {l:Rou2} {t:List Rq} {req:Int} {i j:Nat} (hij:i≤j) (hj:j≤l.length) (hr:0≤req∧req < t.length) (hn:∀ s ∈ l,s.1 ≠ req) (hl:l.length≤14) (h:RightV v (withL l req i j) t):
  wyOf (v 0) (v 1) (v 2) (v 3) (v 4) l t req ((i:Int),(j:Int)) = [((i:Int),(j:Int),(timV v (withL l req i j) t).2.1 - (timV v l t).2.1)]:=by
 obtain ⟨_,e,_⟩:=rise_right hij hj hr hn hl h
 unfold wyOf
 dsimp only
 rw [e,if_pos rfl]
 rfl
theorem w14_wrong {v:Ve} {l:Rou2} {t:List Rq} {req:Int} {i j:Nat} (hij:i≤j) (hj:j≤l.length) (hr:0≤req∧req < t.length) (hn:∀ s ∈ l,s.1 ≠ req) (hl:l.length≤14) (h:¬ RightV v (withL l req i j) t):
  wyOf (v 0) (v 1) (v 2) (v 3) (v 4) l t req ((i:Int),(j:Int)) = []:=by
 unfold wyOf
 dsimp only
 rw [if_neg (rise_wrong hij hj hr hn hl h).2]
def w4K (fl:List Ve) (rows:List Rou2) (t:List Rq) (req:Int) (k:Nat) (ps:List (Int × Int)):List W4:=
 w4P fl rows t req k ++ (if 14 < (rows.getD k []).length then [] else (wysP (fl.getD k ve0 0) (fl.getD k ve0 1) (fl.getD k ve0 2) (fl.getD k ve0 3) (fl.getD k ve0 4) (rows.getD k []) t req ps).map fun u=>(k,u))
theorem w4K_zero (fl:List Ve) (rows:List Rou2) (t:List Rq) (req:Int) (k:Nat):w4K fl rows t req k [] = w4P fl rows t req k:=by
 unfold w4K
 split <;> simp [wysP]
theorem w4K_snoc (fl:List Ve) (rows:List Rou2) (t:List Rq) (req:Int) (k:Nat) (ps:List (Int × Int)) (p:Int × Int):w4K fl rows t req k (ps ++ [p]) = w4K fl rows t req k ps ++ (if 14 < (rows.getD k []).length then [] else (wyOf (fl.getD k ve0 0) (fl.getD k ve0 1) (fl.getD k ve0 2) (fl.getD k ve0 3) (fl.getD k ve0 4) (rows.getD k []) t req p).map fun u=>(k,u)):=by
 unfold w4K
 by_cases h:14 < (rows.getD k []).length
 ·rw [if_pos h,if_pos h,if_pos h]; simp
 ·rw [if_neg h,if_neg h,if_neg h,wysP_snoc,List.map_append,List.append_assoc]
theorem w4K_end (fl:List Ve) (rows:List Rou2) (t:List Rq) (req:Int) (k:Nat) (hl:(rows.getD k []).length≤16):w4K fl rows t req k (prsI ((rows.getD k []).length + 1) ((rows.getD k []).length + 1)) = w4P fl rows t req (k + 1):=by
 have hp:prs ((rows.getD k []).length:Int) = prsI ((rows.getD k []).length + 1) ((rows.getD k []).length + 1):=by
  unfold prs
  rw [if_neg (by omega)]
  rfl
 unfold w4K
 rw [← hp]
 rfl
theorem w4P_len (fl:List Ve) (rows:List Rou2) (t:List Rq) (req:Int):∀ k,(w4P fl rows t req k).length≤306 * k
 | 0=>Nat.le_refl _
 | k + 1=>by
  have ih:=w4P_len fl rows t req k
  have h1:=wysP_len (fl.getD k ve0 0) (fl.getD k ve0 1) (fl.getD k ve0 2) (fl.getD k ve0 3) (fl.getD k ve0 4) (rows.getD k []) t req (prs (rows.getD k []).length)
  have h2:=prs_leC (rows.getD k []).length
  unfold w4P
  rw [List.length_append]
  split
  ·simp; omega
  ·rw [List.length_map]; omega
theorem w4K_len (fl:List Ve) (rows:List Rou2) (t:List Rq) (req:Int) (k:Nat) (ps:List (Int × Int)):(w4K fl rows t req k ps).length≤306 * k + ps.length:=by
 have h0:=w4P_len fl rows t req k
 have h1:=wysP_len (fl.getD k ve0 0) (fl.getD k ve0 1) (fl.getD k ve0 2) (fl.getD k ve0 3) (fl.getD k ve0 4) (rows.getD k []) t req ps
 unfold w4K
 rw [List.length_append]
 split
 ·simp; omega
 ·rw [List.length_map]; omega
def WyPost4 (w:World) (L:List W4) (e:Ending) (w':World):Prop:=
 Below w.heap.size w w'∧∃ q d,e = .returned (.slice q L.length d)∧Els w' q 4 (L.map w4V)
theorem ways14_calls {fl:List Ve} {rows:List Rou2} {t:List Rq} (hP:PlnOk fl rows t) {r:Nat} (hr:r < t.length) (hw:whereP rows (r:Int) < 0) (qF q qT:Option Addr) (cF c cT:Nat) (qs:List (Option Addr × Nat)) (w:World) (hF:Els w qF 5 (fl.map veR)) (hR:RwIn w q rows qs) (hT:Els w qT 10 (t.map rqV)):
  Calls Tryz.prog 93 #[.slice qF fl.length cF,.slice q fl.length c,.slice qT t.length cT,.int .i64 (r:Int)] w (WyPost4 w (w4P fl rows t r fl.length)):=by
 have hbt:t.length≤140737488351232:=by simpa using hT.big
 have hN:=hP.many
 have hlen:=hP.len
 have hrI:(0:Int)≤(r:Int)∧(r:Int) < t.length:=by omega
 have hmay:=Lib.hid (may14_calls hP qF q qT cF c cT qs w hF hR hT)
 obtain ⟨aV,rfl⟩:=hF.some_of (k:=0) (by rw [List.length_map]; omega)
 obtain ⟨aR,rfl⟩:=hR.rws.some_of (k:=0) (by rw [rsV_size]; omega)
 have hnk:=fun k (s:Int × Int) (hs:s ∈ rows.getD k [])=>where_getD hw hs
 have hin:=Lib.hid (fun k (hk:k < fl.length) wx (hb:Below w.heap.size w wx)=>in14_no (qs.getD k (none,0)).1 (qs.getD k (none,0)).2 (rows.getD k []) (r:Int) wx ((hR.row k (by omega)).below hb) (hnk k))
 have hvl:=Lib.hid (fun k (hk:k < fl.length) wx (hb:Below w.heap.size w wx)=>(by
  have:=(hF.below hb).load (P:=Tryz.prog) (a:=aV) rfl (k:=k) (by simpa using hk) (ty:=59) Tryz.underlying59 rfl (by kernel_rfl)
  rw [List.getElem_map] at this
  rw [List.getD_eq_getElem?_getD,List.getElem?_eq_getElem hk]
  exact this:(loadVar 59 (aV.add (k * 5))).run Tryz.prog wx = .ok (.agg (veR (fl.getD k ve0)).toArray) wx))
 have hrl:=Lib.hid (fun k (hk:k < fl.length) wx (hb:Below w.heap.size w wx)=>run_row14 (rs_cell (hR.rws) ((Mod.refl (fun _=>False) _).after hb) (k:=k) (by omega)))
 have htm:=Lib.hid (fun k (hk:k < fl.length) wx (hb:Below w.heap.size w wx) (M:Rou2) (q:Option Addr) (d:Nat) (hM:Els wx q 2 (M.map stV)) (hd:M.length≤d∧d≤9223372036854775807)=>(show Calls Tryz.prog 92 #[.agg (veR (fl.getD k ve0)).toArray,.slice q M.length d,.slice qT t.length cT] wx (TmPost wx (timV (fl.getD k ve0) M t)) from
  times7_ref _ _ _ _ _ q qT d cT M t wx hM hd (hT.below hb)))
 have htr:=Lib.hid (fun k (hk:k < fl.length) wx (hb:Below w.heap.size w wx)=>htm.out k hk wx hb (rows.getD k []) (qs.getD k (none,0)).1 (qs.getD k (none,0)).2 ((hR.row k (by omega)).below hb) (hR.cap k (by omega)))
 have hwi:=Lib.hid (fun k (hk:k < fl.length) wx (hb:Below w.heap.size w wx) (i j:Nat)=>rwith_calls (qs.getD k (none,0)).1 (qs.getD k (none,0)).2 (rows.getD k []) (r:Int) (i:Int) (j:Int) wx ((hR.row k (by omega)).below hb))
 have hck:=Lib.hid (fun k (hk:k < fl.length) (i j:Nat) (hij:i≤j) (hj:j≤(rows.getD k []).length) (h14:(rows.getD k []).length≤14) wx (hb:Below w.heap.size w wx) (q:Option Addr) (d:Nat) (hM:Els wx q 2 ((withL (rows.getD k []) (r:Int) i j).map stV)) (hd:(withL (rows.getD k []) (r:Int) i j).length≤d∧d≤9223372036854775807)=>
  (show Calls Tryz.prog 109 #[.agg (veR (fl.getD k ve0)).toArray,.slice q (withL (rows.getD k []) (r:Int) i j).length d,.slice qT t.length cT] wx (CkPost wx (RightV (fl.getD k ve0) (withL (rows.getD k []) (r:Int) i j) t)) from by
    have hr1:=hP.right k hk
    refine check9_calls hr1.1 hr1.2.1 ?_ (rou_withL hr1.2.2.2.1 hrI.1 (hnk k) hij hj) ?_ q qT d cT wx hM hd (hT.below hb)
    ·rw [withL_len _ _ hij hj]; omega
    ·intro s hs
     unfold withL at hs
     simp only [List.mem_append,List.mem_cons] at hs
     have h5:=hr1.2.2.2.2.1
     rcases hs with hs | rfl | hs | rfl | hs
     ·exact h5 s (List.mem_of_mem_take hs)
     ·exact hrI.2
     ·exact h5 s (List.mem_of_mem_drop (List.mem_of_mem_take hs))
     ·exact hrI.2
     ·exact h5 s (List.mem_of_mem_drop hs)))
 have htb:=Lib.hid (fun k (hk:k < fl.length)=>totV_bd (hP.right k hk))
 have hw1:=Lib.hid (fun k (hk:k < fl.length) (h14:(rows.getD k []).length≤14) (i j:Nat) (hij:i≤j) (hj:j≤(rows.getD k []).length) (h:RightV (fl.getD k ve0) (withL (rows.getD k []) (r:Int) i j) t)=>w14_right hij hj hrI (hnk k) h14 h)
 have hw0:=Lib.hid (fun k (hk:k < fl.length) (h14:(rows.getD k []).length≤14) (i j:Nat) (hij:i≤j) (hj:j≤(rows.getD k []).length) (h:¬ RightV (fl.getD k ve0) (withL (rows.getD k []) (r:Int) i j) t)=>w14_wrong hij hj hrI (hnk k) h14 h)
 have hws:=Lib.hid (fun k (h14:(rows.getD k []).length≤14) (i j:Nat) (hij:i≤j) (hj:j≤(rows.getD k []).length)=>withP_some hij hj hrI.1 (hnk k) h14)
 have hwn:=Lib.hid (fun k (h14:14 < (rows.getD k []).length) (i j:Int)=>(by unfold withP; rw [if_pos (by omega)]:withP (rows.getD k []) (r:Int) i j = none))
 have hsn:=Lib.hid (w4K_snoc fl rows t (r:Int))
 have hz0:=Lib.hid (w4K_zero fl rows t (r:Int))
 have hen:=Lib.hid (fun k (hk:k < fl.length)=>w4K_end fl rows t (r:Int) k (hP.right k hk).2.2.1)
 have hkl:=Lib.hid (w4K_len fl rows t (r:Int))
 have hpl:=Lib.hid (w4P_len fl rows t (r:Int))
 have hr16:=Lib.hid (fun k (hk:k < fl.length)=>(hP.right k hk).2.2.1)
 have hPz:w4P fl rows t (r:Int) 0 = []:=rfl
 replace hPz:=Lib.hid hPz
 generalize w4P fl rows t (r:Int) = WP at *
 generalize w4K fl rows t (r:Int) = WK at *
 clear hP hF hR hT hlen hnk hw
 obtain ⟨N,hNN⟩:∃ N,fl.length = N:=⟨_,rfl⟩
 obtain ⟨T,hTT⟩:∃ T,t.length = T:=⟨_,rfl⟩
 rw [hNN] at hN hmay hin hvl hrl htr htm hwi hck htb hw1 hw0 hen hr16 ⊢
 rw [hTT] at hmay htr htm hck hr hbt ⊢
 obtain ⟨hN1,hN4⟩:=hN
 clear hNN hTT hrI
 have hrT:(r:Int) < (T:Int):=by omega
 have hrN:¬ T≤r:=by omega
 have hr00:¬ (r:Int) < 0:=by omega
 go_enter Tryz.func93,Tryz.ntmps93
 go_wp2_with fail
 refine hmay.out.mono ?_
 rintro e w1 ⟨rfl,hb1⟩
 replace hb1:=Lib.hid hb1
 clear hmay
 go_wp2_with fail
 go_loopw [9] (fun i wr=>∃ k:Nat,k≤N∧i = .int .i64 k∧Below w.heap.size w wr) (fun i _=>N - (intOf i).toNat)
 case atStart=>exact ⟨0,Nat.zero_le _,rfl,hb1.out⟩
 case round=>
  clear hb1
  obtain ⟨k,hk,rfl,hb⟩:=hrel
  by_cases hlt:k < N
  ·have hltI:(k:Int) < (N:Int):=by omega
   have s1:IntKind.i64.wrap ((k:Int) + 1) = (k:Int) + 1:=IntWalk.i64_in _ (by omega)
   have hl1:=Lib.hid (hrl.out k hlt _ hb)
   have hi1:=hin.out k hlt _ hb
   replace hb:=Lib.hid hb
   go_wp2_with (first | (refine wpList_v rfl (.pointer (some (aR.add k))) (run_ixRs (k:=k) rfl rfl rfl hlt) ?_) | (refine wpList_load_v rfl 82 _ rfl (aR.add k) rfl _ hl1.out ?_))
   refine hi1.mono ?_
   rintro e w2 ⟨rfl,rfl⟩
   clear hi1 hl1
   go_wp2_with fail
   go_roundw
   case rel=>exact ⟨k + 1,by omega,by simp,hb.out⟩
   case measure=>simp [intOf]; omega
  ·obtain rfl:k = N:=by omega
   clear hin
   go_wp2_with fail
   go_loopw [10,11] (fun s10 s11 wx=>∃ k':Nat,k'≤k∧s11 = .int .i64 k'∧wx.ownsRow w.heap.size 150 4 s10 (WP k').length ((WP k').map w4V).flatten∧Below w.heap.size w wx) (fun _ i _=>k - (intOf i).toNat)
   case atStart=>exact ⟨0,Nat.zero_le _,rfl,by rw [hPz.out]; exact World.ownsRow_nil _ _ _ _,hb⟩
   case round=>
    clear hb hPz
    obtain ⟨v,hv,rfl,hO,hb⟩:=hrel
    by_cases hlt2:v < k
    ·have hltJ:(v:Int) < (k:Int):=by omega
     have hv0:(0:Int)≤(v:Int):=by omega
     have s1:IntKind.i64.wrap ((v:Int) + 1) = (v:Int) + 1:=IntWalk.i64_in _ (by omega)
     have hvl1:=Lib.hid (fun wx (h:Below w.heap.size w wx)=>hvl.out v hlt2 wx h)
     have hrl1:=Lib.hid (fun wx (h:Below w.heap.size w wx)=>hrl.out v hlt2 wx h)
     have htr1:=fun wx (h:Below w.heap.size w wx)=>htr.out v hlt2 wx h
     have hwi1:=Lib.hid (fun wx (h:Below w.heap.size w wx) i j=>hwi.out v hlt2 wx h i j)
     have hck1:=Lib.hid (fun i j hij hj h14=>hck.out v hlt2 i j hij hj h14)
     have hw11:=Lib.hid (fun h14 i j hij hj=>hw1.out v hlt2 h14 i j hij hj)
     have hw01:=Lib.hid (fun h14 i j hij hj=>hw0.out v hlt2 h14 i j hij hj)
     have hws1:=Lib.hid (fun h14 i j hij hj=>hws.out v h14 i j hij hj)
     have hwn1:=Lib.hid (fun h14 i j=>hwn.out v h14 i j)
     have hsn1:=Lib.hid (fun ps p=>hsn.out v ps p)
     have hz1:=Lib.hid (hz0.out v)
     have hen1:=hen.out v hlt2
     have hkl1:=Lib.hid (fun ps=>hkl.out v ps)
     have hr1:=hr16.out v hlt2
     obtain ⟨b1,b2,b3,b4⟩:=htb.out v hlt2
     have hk306:v≤3:=by omega
     obtain ⟨V,hV⟩:∃ V,fl.getD v ve0 = V:=⟨_,rfl⟩
     rw [hV] at hvl1 htr1 hck1 hw11 hw01 hsn1 b1 b2 b3 b4
     have htM1:=Lib.hid (fun wx (hb:Below w.heap.size w wx) (M:Rou2) (q:Option Addr) (d:Nat) (hM:Els wx q 2 (M.map stV)) (hd:M.length≤d∧d≤9223372036854775807)=>(by
      have:=htm.out v hlt2 wx hb M q d hM hd
      rwa [hV] at this:Calls Tryz.prog 92 #[.agg (veR V).toArray,.slice q M.length d,.slice qT T cT] wx (TmPost wx (timV V M t))))
     obtain ⟨L0,en,e0,hTM⟩:∃ L en e0,timV V (rows.getD v []) t = (L,en,e0):=⟨_,_,_,rfl⟩
     have hbE:0≤en∧en≤2097152:=by
      unfold totV at b1 b2
      rw [hTM] at b1 b2
      dsimp only at b1 b2
      omega
     rw [hTM] at htr1 b4 hw11
     obtain rfl:e0 = 0:=b4
     unfold TmPost at htr1
     dsimp only at htr1 hw11
     replace htr1:=Lib.hid htr1
     obtain ⟨Y,hY⟩:∃ Y,(veR V).toArray = Y:=⟨_,rfl⟩
     rw [hY] at hvl1 htr1 hck1 htM1
     clear hY hTM b1 b2 b3 hV
     generalize (qs.getD v (none,0)).1 = qk at *
     generalize (qs.getD v (none,0)).2 = dk at *
     generalize rows.getD v [] = L at *
     have hlen1:=Lib.hid (fun (i j:Nat) (hij:i≤j) (hj:j≤L.length)=>(withL_len L (r:Int) hij (by omega):(withL L r i j).length = L.length + 2))
     obtain ⟨ln,hln⟩:∃ ln,L.length = ln:=⟨_,rfl⟩
     rw [hln] at hrl1 htr1 hwi1 hck1 hw11 hw01 hws1 hwn1 hsn1 hen1 hr1 hlen1
     generalize WK v = wk at *
     replace hen1:=Lib.hid hen1
     replace hln:=Lib.hid hln
     rw [← hz1.out] at hO
     clear hz1
     replace hO:=Lib.hid hO
     replace hb:=Lib.hid hb
     go_upto_region 12 with fail
     refine wp_region_rove (X:=Option Addr × Nat) (none,0) (fun x=>[(57,.slice (some aV) k cF),(58,.int .i64 (v:Int)),(59,.pointer (some (aV.add (v * 5)))),(60,.agg Y),(61,.slice (some aR) k c),(62,.int .i64 (v:Int)),(63,.pointer (some (aR.add v))),(64,.slice qk ln dk),(65,.slice qT T cT),(68,.int .i64 en),(69,.int .i64 0),(13,.int .i64 en),(14,.int .i64 0)] ++ [(66,.tuple #[.slice x.1 L0.length x.2,.int .i64 en,.int .i64 0]),(56,.tuple #[.slice x.1 L0.length x.2,.int .i64 en,.int .i64 0]),(67,.slice x.1 L0.length x.2),(12,.slice x.1 L0.length x.2)])
      (fun x d W'=>Mod (fun _=>False) wr W') (by kernel_rfl) (by kernel_rfl) (by kernel_rfl) (by kernel_rfl) (fun x=>by kernel_rfl)
      (Mod.refl _ _).drew ?_ ?_
     ·intro aF hAF
      have E0:∀ x,(aF x).eval (.tmp 0) = .slice (some aV) k cF:=by intro x; rw [hAF]; kernel_rfl
      have E1:∀ x,(aF x).eval (.tmp 1) = .slice (some aR) k c:=by intro x; rw [hAF]; kernel_rfl
      have E2:∀ x,(aF x).eval (.tmp 2) = .slice qT T cT:=by intro x; rw [hAF]; kernel_rfl
      have E11:∀ x,(aF x).eval (.tmp 11) = .int .i64 (v:Int):=by intro x; rw [hAF]; kernel_rfl
      have T57:∀ x,(aF x).tmps[57]? = some (.slice (some aV) k cF):=by intro x; rw [hAF]; kernel_rfl
      have T58:∀ x,(aF x).tmps[58]? = some (.int .i64 (v:Int)):=by intro x; rw [hAF]; kernel_rfl
      have T59:∀ x,(aF x).tmps[59]? = some (.pointer (some (aV.add (v * 5)))):=by intro x; rw [hAF]; kernel_rfl
      have T60:∀ x,(aF x).tmps[60]? = some (.agg Y):=by intro x; rw [hAF]; kernel_rfl
      have T61:∀ x,(aF x).tmps[61]? = some (.slice (some aR) k c):=by intro x; rw [hAF]; kernel_rfl
      have T62:∀ x,(aF x).tmps[62]? = some (.int .i64 (v:Int)):=by intro x; rw [hAF]; kernel_rfl
      have T63:∀ x,(aF x).tmps[63]? = some (.pointer (some (aR.add v))):=by intro x; rw [hAF]; kernel_rfl
      have T64:∀ x,(aF x).tmps[64]? = some (.slice qk ln dk):=by intro x; rw [hAF]; kernel_rfl
      have T65:∀ x,(aF x).tmps[65]? = some (.slice qT T cT):=by intro x; rw [hAF]; kernel_rfl
      have T68:∀ x,(aF x).tmps[68]? = some (.int .i64 en):=by intro x; rw [hAF]; kernel_rfl
      have T69:∀ x,(aF x).tmps[69]? = some (.int .i64 0):=by intro x; rw [hAF]; kernel_rfl
      have T13:∀ x,(aF x).tmps[13]? = some (.int .i64 en):=by intro x; rw [hAF]; kernel_rfl
      have T14:∀ x,(aF x).tmps[14]? = some (.int .i64 0):=by intro x; rw [hAF]; kernel_rfl
      have T66:∀ x,(aF x).tmps[66]? = some (.tuple #[.slice x.1 L0.length x.2,.int .i64 en,.int .i64 0]):=by intro x; rw [hAF]; kernel_rfl
      have T56:∀ x,(aF x).tmps[56]? = some (.tuple #[.slice x.1 L0.length x.2,.int .i64 en,.int .i64 0]):=by intro x; rw [hAF]; kernel_rfl
      have T67:∀ x,(aF x).tmps[67]? = some (.slice x.1 L0.length x.2):=by intro x; rw [hAF]; kernel_rfl
      have T12:∀ x,(aF x).tmps[12]? = some (.slice x.1 L0.length x.2):=by intro x; rw [hAF]; kernel_rfl
      replace hAF:=Lib.hid hAF
      refine ⟨?_,?_,?_,?_,?_,?_,?_,?_,?_,?_,?_,?_,?_,?_,?_,?_,?_,trivial⟩
      ·exact oq T57 rfl rfl fun x d w' hd hc=>sv (run_mov rfl (E0 x)) hc
      ·exact oq T58 rfl rfl fun x d w' hd hc=>sv (run_mov rfl (E11 x)) hc
      ·exact oq T59 rfl rfl fun x d w' hd hc=>sv (run_ixVe14 rfl (ev T57 x) (ev T58 x) hlt2) hc
      ·exact oq T60 rfl rfl fun x d w' hd hc=>sv (run_load1 rfl (ev T59 x) (hvl1.out _ (hb.out.trans (hc.below hb.out.size (fun _ h=>h.elim))))) hc
      ·exact oq T61 rfl rfl fun x d w' hd hc=>sv (run_mov rfl (E1 x)) hc
      ·exact oq T62 rfl rfl fun x d w' hd hc=>sv (run_mov rfl (E11 x)) hc
      ·exact oq T63 rfl rfl fun x d w' hd hc=>sv (run_ixRs rfl (ev T61 x) (ev T62 x) hlt2) hc
      ·exact oq T64 rfl rfl fun x d w' hd hc=>sv (run_load1 rfl (ev T63 x) (hrl1.out _ (hb.out.trans (hc.below hb.out.size (fun _ h=>h.elim))))) hc
      ·exact oq T65 rfl rfl fun x d w' hd hc=>sv (run_mov rfl (E2 x)) hc
      ·exact opOk3_loud rfl fun x d w' hd hn hc=>by
         refine sk (run_call14 rfl (ev T60 x) (ev T64 x) (ev T65 x) (by kernel_rfl)) ((htr1.out w' (hb.out.trans (hc.below hb.out.size (fun _ h=>h.elim)))).mono ?_)
         rintro e w'' ⟨q,dd,rfl,hb,-⟩
         exact ⟨_,rfl,(q,dd),(by rw [hAF.out]; exact agree_any (by kernel_rfl) (by kernel_rfl)),(by intro t hd _; cases hd; exact T66 _),hc.after hb⟩
      ·exact oq T56 rfl rfl fun x d w' hd hc=>sv (run_mov rfl (ev T66 x)) hc
      ·exact oq T67 rfl rfl fun x d w' hd hc=>sv (run_ext rfl (ev T56 x) rfl) hc
      ·exact oq T68 rfl rfl fun x d w' hd hc=>sv (run_ext rfl (ev T56 x) rfl) hc
      ·exact oq T69 rfl rfl fun x d w' hd hc=>sv (run_ext rfl (ev T56 x) rfl) hc
      ·exact oq T12 rfl rfl fun x d w' hd hc=>sv (run_asg rfl (ev T67 x)) hc
      ·exact oq T13 rfl rfl fun x d w' hd hc=>sv (run_asg rfl (ev T68 x)) hc
      ·exact oq T14 rfl rfl fun x d w' hd hc=>sv (run_asg rfl (ev T69 x)) hc
     ·intro x d w' hd hc
      simp only [putAll,List.foldl_cons,List.foldl_nil,List.cons_append,List.nil_append,Act.put,List.setIfInBounds_toArray,List.set_cons_succ,List.set_cons_zero]
      obtain ⟨q9,d9⟩:=x
      replace hO:=Lib.hid (own_mod hO.out hc (fun _ _ h=>h))
      replace hb:=Lib.hid (hb.out.trans (hc.below hb.out.size (fun _ h=>h.elim)))
      clear hc hd
      generalize w' = w4 at *
      obtain ⟨n1,hn1⟩:∃ n1,n1 = ln + 1:=⟨_,rfl⟩
      have hn17:n1≤17:=by omega
      rw [← hn1] at hen1
      have hn1a:n1≤ln + 1:=by omega
      have hn1b:ln + 1≤n1:=by omega
      replace hn1:=Lib.hid hn1
      go_wp2_with fail
      go_loopw [10,15] (fun s10 s15 wx=>∃ i:Nat,i≤n1∧s15 = .int .i64 i∧wx.ownsRow w.heap.size 150 4 s10 (wk (prsI n1 i)).length ((wk (prsI n1 i)).map w4V).flatten∧Below w.heap.size w wx) (fun _ s15 _=>n1 - (intOf s15).toNat)
      case atStart=>exact ⟨0,Nat.zero_le _,rfl,hO.out,hb.out⟩
      case round=>
       clear hO hb
       obtain ⟨i,hi,rfl,hO,hb⟩:=hrel
       have hl1:=Lib.hid (hrl1.out _ hb)
       by_cases hlt3:i≤ln
       ·have hltK:(i:Int)≤(ln:Int):=by omega
        have hi0:(0:Int)≤(i:Int):=by omega
        have s2:IntKind.i64.wrap ((i:Int) + 1) = (i:Int) + 1:=IntWalk.i64_in _ (by omega)
        replace hO:=Lib.hid hO
        replace hb:=Lib.hid hb
        go_wp2_with (first | (refine wpList_v rfl (.pointer (some (aR.add v))) (run_ixRs (k:=v) rfl rfl rfl hlt2) ?_) | (refine wpList_load_v rfl 82 _ rfl (aR.add v) rfl _ hl1.out ?_))
        clear hl1
        go_loopw [10,16] (fun s10 s16 wx=>∃ d:Nat,d≤n1 - i∧s16 = .int .i64 ((i + d:Nat):Int)∧wx.ownsRow w.heap.size 150 4 s10 (wk (prsJ n1 i d)).length ((wk (prsJ n1 i d)).map w4V).flatten∧Below w.heap.size w wx) (fun _ s16 _=>n1 - (intOf s16).toNat)
        case atStart=>exact ⟨0,Nat.zero_le _,rfl,by rw [prsJ_zero]; exact hO.out,hb.out⟩
        case round=>
         clear hO hb
         obtain ⟨d,hd,rfl,hO,hb⟩:=hrel
         obtain ⟨p9,m9,c9,rfl⟩:=own_isS hO
         have hl1:=Lib.hid (hrl1.out _ hb)
         by_cases hlt4:i + d≤ln
         ·have hsc:=prsJ_succ n1 i d
          have hsn2:=hsn1.out (prsJ n1 i d) ((i:Int),((i + d:Nat):Int))
          rw [← hsc] at hsn2
          have hle:=hkl1.out (prsJ n1 i d)
          have hpl1:(prsJ n1 i d).length≤1000:=by
           have h1:=prsI_leC n1 i (by omega)
           unfold prsJ
           rw [List.length_append,rowP_len]
           have h2:i * n1≤17 * 17:=Nat.mul_le_mul (by omega) (by omega)
           omega
          have hwp:=hwi1.out _ hb i (i + d)
          have hw12:=fun h14=>hw11.out h14 i (i + d) (by omega) hlt4
          have hw02:=fun h14=>hw01.out h14 i (i + d) (by omega) hlt4
          have hws2:=fun h14=>hws1.out h14 i (i + d) (by omega) hlt4
          have hck2:=fun h14=>hck1.out i (i + d) (by omega) hlt4 h14
          have hml:=hlen1.out i (i + d) (by omega) hlt4
          obtain ⟨jj,hjj⟩:∃ jj:Int,((i + d:Nat):Int) = jj:=⟨_,rfl⟩
          rw [hjj] at hsn2 hwp hw12 hw02 hws2 ⊢
          have hjI:jj≤(ln:Int):=by omega
          have s3:IntKind.i64.wrap (jj + 1) = jj + 1:=IntWalk.i64_in _ (by omega)
          replace hjj:=Lib.hid hjj
          generalize withL L r i (i + d) = M at *
          clear hsc
          replace hO:=Lib.hid hO
          replace hb:=Lib.hid hb
          replace hw12:=Lib.hid hw12
          replace hw02:=Lib.hid hw02
          replace hck2:=Lib.hid hck2
          by_cases h14:14 < ln
          ·rw [hwn1.out h14] at hwp
           rw [if_pos h14,List.append_nil] at hsn2
           replace hsn2:=Lib.hid hsn2
           unfold WiPost at hwp
           dsimp only [Option.getD_none,Option.isSome_none] at hwp
           clear hw12 hw02 hck2 hws2
           go_wp2_with (first | (refine wpList_v rfl (.pointer (some (aR.add v))) (run_ixRs (k:=v) rfl rfl rfl hlt2) ?_) | (refine wpList_load_v rfl 82 _ rfl (aR.add v) rfl _ hl1.out ?_))
           refine hwp.mono ?_
           clear hwp
           rintro e w4 ⟨⟨q4,d4,rfl,hd4,hE4⟩,hb4⟩
           replace hO:=Lib.hid (own_below hO.out hb4)
           replace hb:=Lib.hid (hb.out.trans (hb4.mono hb.out.size))
           clear hb4 hE4 hd4
           go_wp2_with fail
           go_roundw
           case rel=>exact ⟨d + 1,by omega,by have:=hjj.out; simp; omega,by rw [hsn2.out]; exact hO.out,hb.out⟩
           case measure=>have:=hjj.out; simp [intOf]; omega
          ·have h14':ln≤14:=by omega
           rw [hws2 h14'] at hwp
           rw [if_neg h14] at hsn2
           unfold WiPost at hwp
           dsimp only [Option.getD_some,Option.isSome_some] at hwp
           have hck3:=Lib.hid (hck2.out h14')
           have hwr:=Lib.hid (hw12.out h14')
           have hwn:=Lib.hid (hw02.out h14')
           have hbM:Hid (RightV V M t→0≤(timV V M t).2.1∧(timV V M t).2.1≤2097152∧(timV V M t).2.2 = 0):=Lib.hid (fun h=>by
            obtain ⟨b1,b2,b3,b4⟩:=totV_bd h
            unfold totV at b1 b2
            exact ⟨by omega,by omega,b4⟩)
           obtain ⟨mn,hmn⟩:∃ mn,M.length = mn:=⟨_,rfl⟩
           rw [hmn] at hwp hml hck3
           have hmI:mn≤16:=by omega
           clear hw12 hw02 hck2 hws2 hml
           replace hmn:=Lib.hid hmn
           replace hsn2:=Lib.hid hsn2
           go_wp2_with (first | (refine wpList_v rfl (.pointer (some (aR.add v))) (run_ixRs (k:=v) rfl rfl rfl hlt2) ?_) | (refine wpList_load_v rfl 82 _ rfl (aR.add v) rfl _ hl1.out ?_))
           refine hwp.mono ?_
           clear hwp hl1
           rintro e w4 ⟨⟨q4,d4,rfl,hd4,hE4⟩,hb4⟩
           replace hO:=Lib.hid (own_below hO.out hb4)
           replace hb:=Lib.hid (hb.out.trans (hb4.mono hb.out.size))
           have hl4:=Lib.hid (hvl1.out _ hb.out)
           have hf:=hck3.out _ hb.out q4 d4 hE4 hd4
           replace hE4:=Lib.hid hE4
           clear hb4 hck3
           go_upto_region 21 with fail
           go_wp2_with (first | (refine wpList_v rfl (.pointer (some (aV.add (v * 5)))) (run_ixVe14 (k:=v) rfl rfl rfl hlt2) ?_) | (refine wpList_load_v rfl 59 _ rfl (aV.add (v * 5)) rfl _ hl4.out ?_))
           refine hf.mono ?_
           clear hf hl4
           rintro e w5 ⟨hb5,⟨hg,rfl⟩ | ⟨hg,cc,ca,cb,hc0,rfl⟩⟩
           ·obtain ⟨b1,b2,b3⟩:=hbM.out hg
            have hw3:=hwr.out hg
            clear hwr hwn hbM hg
            replace hE4:=Lib.hid (hE4.out.below hb5)
            replace hO:=Lib.hid (own_below hO.out hb5)
            replace hb:=Lib.hid (hb.out.trans (hb5.mono hb.out.size))
            clear hb5
            go_upto_region 22 with (refine wpList_store_new rfl 198 _ _ rfl rfl rfl _ #[.int .i64 0,.int .i64 0,.int .i64 0] _ rfl rfl (fa_one _ _ _) (fa_size _ _ _) ?_)
            generalize hbF:w5.heap.size = bF
            refine wp_world' (fun wx=>Blk wx bF #[.int .i64 0,.int .i64 0,.int .i64 0] 198∧Els wx q4 2 (M.map stV)∧wx.ownsRow w.heap.size 150 4 (.slice p9 m9 c9) (wk (prsJ n1 i d)).length ((wk (prsJ n1 i d)).map w4V).flatten∧Below w.heap.size w wx)
             ⟨by rw [← hbF]; exact Blk.new _ _ _,hE4.out.below ((Below.refl _ _).alloc (Nat.le_refl _) _),own_mod hO.out ((Mod.refl (fun _=>False) _).alloc _) (fun _ _ h=>h),hb.out.alloc hb.out.size _⟩ ?_
            clear hE4 hO hb hbF
            rintro w6 ⟨hF6,hE4,hO,hb⟩
            have k6:=hF6.cell (i:=0) (v:=.int .i64 0) rfl
            have hl4:=Lib.hid (hvl1.out _ hb)
            have hf:=htM1.out _ hb M q4 d4 hE4 (by rw [hmn.out]; exact hd4)
            rw [hmn.out] at hf
            obtain ⟨LM,eM,cM,hTM⟩:∃ LM eM cM,timV V M t = (LM,eM,cM):=⟨_,_,_,rfl⟩
            rw [hTM] at hf b1 b2 b3 hw3
            unfold TmPost at hf
            dsimp only at hf b1 b2 b3 hw3
            subst b3
            replace hO:=Lib.hid hO
            replace hb:=Lib.hid hb
            replace hw3:=Lib.hid hw3
            clear hF6 hE4 hTM
            go_upto_region 23 with fail
            clear k6
            go_wp2_with (first | (refine wpList_v rfl (.pointer (some (aV.add (v * 5)))) (run_ixVe14 (k:=v) rfl rfl rfl hlt2) ?_) | (refine wpList_load_v rfl 59 _ rfl (aV.add (v * 5)) rfl _ hl4.out ?_))
            refine hf.mono ?_
            clear hf hl4
            rintro e w7 ⟨q6,d6,rfl,hb6,-⟩
            replace hO:=Lib.hid (own_below hO.out hb6)
            replace hb:=Lib.hid (hb.out.trans (hb6.mono hb.out.size))
            clear hb6
            have s4:IntKind.i64.wrap (eM - en) = eM - en:=IntWalk.i64_in _ (by omega)
            have hw2:=Lib.hid (show wk (prsJ n1 i (d + 1)) = wk (prsJ n1 i d) ++ [(v,((i:Int),jj,eM - en))] from by rw [hsn2.out,hw3.out]; rfl)
            have hOA:=Lib.hid (own_mod hO.out ((Mod.refl (fun _=>False) w7).alloc (.cells #[.int .i64 (v:Int),.int .i64 (i:Int),.int .i64 jj,.int .i64 (eM - en)] 150)) (fun _ _ h=>h))
            have hlow:=Lib.hid (hb.out.alloc hb.out.size (.cells #[.int .i64 (v:Int),.int .i64 (i:Int),.int .i64 jj,.int .i64 (eM - en)] 150))
            have hzA:=Lib.hid (show w.heap.size≤(w7.alloc (.cells #[.int .i64 (v:Int),.int .i64 (i:Int),.int .i64 jj,.int .i64 (eM - en)] 150)).heap.size from by have:=hb.out.size; simp; omega)
            have hal3:(wk (prsJ n1 i d)).length≤100000:=by omega
            clear hO hb hw3 hsn2
            go_upto_region 24 with fail
            refine wp_region_lit ?_
            refine wpList_v rfl _ (run_mov rfl rfl) ?_
            simp only [Act.put,List.setIfInBounds_toArray,List.set_cons_succ,List.set_cons_zero]
            refine wpList_v rfl _ (run_mov rfl rfl) ?_
            simp only [Act.put,List.setIfInBounds_toArray,List.set_cons_succ,List.set_cons_zero]
            refine wpList_v rfl _ (run_mov rfl rfl) ?_
            simp only [Act.put,List.setIfInBounds_toArray,List.set_cons_succ,List.set_cons_zero]
            refine wpList_v rfl _ (run_mov rfl rfl) ?_
            simp only [Act.put,List.setIfInBounds_toArray,List.set_cons_succ,List.set_cons_zero]
            refine wpList_v rfl _ (run_mov rfl rfl) ?_
            simp only [Act.put,List.setIfInBounds_toArray,List.set_cons_succ,List.set_cons_zero]
            refine wpList_v rfl _ (run_mov rfl rfl) ?_
            simp only [Act.put,List.setIfInBounds_toArray,List.set_cons_succ,List.set_cons_zero]
            refine wpList_v rfl (.int .i64 (eM - en)) (run_sub14 s4 rfl rfl rfl) ?_
            simp only [Act.put,List.setIfInBounds_toArray,List.set_cons_succ,List.set_cons_zero]
            refine wpList_v rfl (.agg #[.int .i64 (v:Int),.int .i64 (i:Int),.int .i64 jj,.int .i64 (eM - en)]) (run_bldA14 (a:=.int .i64 (v:Int)) (b:=.int .i64 (i:Int)) (c:=.int .i64 jj) (d:=.int .i64 (eM - en)) rfl rfl rfl rfl rfl (run_bw14 _ _ _ _ _)) ?_
            simp only [Act.put,List.setIfInBounds_toArray,List.set_cons_succ,List.set_cons_zero]
            refine wpList_bs1 rfl 175 1 0 _ rfl (.agg #[.int .i64 (v:Int),.int .i64 (i:Int),.int .i64 jj,.int .i64 (eM - en)]) rfl _ _ (rsl_w14 _ _ _ _ _) ?_
            simp only [Act.put,List.setIfInBounds_toArray,List.set_cons_succ,List.set_cons_zero]
            refine wpList_appG w4_el rfl _ _ rfl w.heap.size hzA.out _ (wk (prsJ n1 i d)).length _ rfl hOA.out hal3 ⟨w7.heap.size,0,none⟩ 1 1 (w4V (v,((i:Int),jj,eM - en))) rfl rfl (by omega) (row_cells (Blk.new w7 _ _)) (w4_one _) ?_
            intro v8 w8 hO8 hg8
            have hb8:=Lib.hid (grown_low hlow.out (Nat.le_refl _) (Nat.le_refl _) hOA.out hg8)
            replace hO8:=Lib.hid hO8
            clear hg8 hOA hzA hlow
            simp only [Act.put,List.setIfInBounds_toArray,List.set_cons_succ,List.set_cons_zero]
            go_wp2_with fail
            go_roundw
            case rel=>exact ⟨d + 1,by omega,by have:=hjj.out; simp; omega,by rw [hw2.out]; simpa using hO8.out,hb8.out⟩
            case measure=>have:=hjj.out; simp [intOf]; omega
           ·have hw3:=hwn.out hg
            have hw2:=Lib.hid (show wk (prsJ n1 i (d + 1)) = wk (prsJ n1 i d) from by rw [hsn2.out,hw3]; simp)
            have d1:(cc == 0) = false:=beq_eq_false_iff_ne.2 hc0
            have d2:(cc != 0) = true:=by rw [bne,d1]; rfl
            replace hO:=Lib.hid (own_below hO.out hb5)
            replace hb:=Lib.hid (hb.out.trans (hb5.mono hb.out.size))
            clear hb5 hwr hwn hbM hg hE4 hw3 hsn2
            go_upto_region 22 with (refine wpList_store_new rfl 198 _ _ rfl rfl rfl _ #[.int .i64 cc,.int .i64 ca,.int .i64 cb] _ rfl rfl (fa_one _ _ _) (fa_size _ _ _) ?_)
            generalize hbF:w5.heap.size = bF
            refine wp_world' (fun wx=>Blk wx bF #[.int .i64 cc,.int .i64 ca,.int .i64 cb] 198∧wx.ownsRow w.heap.size 150 4 (.slice p9 m9 c9) (wk (prsJ n1 i d)).length ((wk (prsJ n1 i d)).map w4V).flatten∧Below w.heap.size w wx)
             ⟨by rw [← hbF]; exact Blk.new _ _ _,own_mod hO.out ((Mod.refl (fun _=>False) _).alloc _) (fun _ _ h=>h),hb.out.alloc hb.out.size _⟩ ?_
            clear hO hb hbF
            rintro w6 ⟨hF6,hO,hb⟩
            have k6:=hF6.cell (i:=0) (v:=.int .i64 cc) rfl
            replace hO:=Lib.hid hO
            replace hb:=Lib.hid hb
            clear hF6
            go_wp2_with fail
            clear k6
            go_roundw
            case rel=>exact ⟨d + 1,by omega,by have:=hjj.out; simp; omega,by rw [hw2.out]; exact hO.out,hb.out⟩
            case measure=>have:=hjj.out; simp [intOf]; omega
         ·obtain rfl:d = n1 - i:=by omega
          rw [prsJ_end] at hO
          replace hO:=Lib.hid hO
          replace hb:=Lib.hid hb
          have hnle:¬ ((i + (n1 - i):Nat):Int)≤(ln:Int):=by omega
          go_wp2_with (first | (refine wpList_v rfl (.pointer (some (aR.add v))) (run_ixRs (k:=v) rfl rfl rfl hlt2) ?_) | (refine wpList_load_v rfl 82 _ rfl (aR.add v) rfl _ hl1.out ?_))
          go_roundw
          case rel=>exact ⟨i + 1,by omega,by simp,hO.out,hb.out⟩
          case measure=>simp [intOf]; omega
       ·obtain rfl:i = n1:=by omega
        have hnle:¬ (i:Int)≤(ln:Int):=by omega
        rw [hen1.out] at hO
        replace hO:=Lib.hid hO
        replace hb:=Lib.hid hb
        go_wp2_with (first | (refine wpList_v rfl (.pointer (some (aR.add v))) (run_ixRs (k:=v) rfl rfl rfl hlt2) ?_) | (refine wpList_load_v rfl 82 _ rfl (aR.add v) rfl _ hl1.out ?_))
        go_roundw
        case rel=>exact ⟨v + 1,by omega,by simp,hO.out,hb.out⟩
        case measure=>simp [intOf]; omega
    ·obtain rfl:v = k:=by omega
     obtain ⟨q9,m9,d9,rfl⟩:=own_isS hO
     obtain rfl:=own_lenC hO
     have hpl1:=hpl.out v
     obtain ⟨h1,_,_,_⟩:=own_els (R:=(WP v).map w4V) (w4V_len _) (by rw [List.length_map]; exact hO) (by rw [List.length_map]; omega)
     replace h1:=Lib.hid h1
     replace hb:=Lib.hid hb
     clear hO
     go_wp2_with fail
     go_ret
     have hz:WyPost4 w (WP v) (.returned (.slice q9 (WP v).length d9)) wr:=⟨hb.out,q9,d9,rfl,h1.out⟩
     exact hz
end
end
end Go.Proofs.YtkaoflndbcfodaaGreat
