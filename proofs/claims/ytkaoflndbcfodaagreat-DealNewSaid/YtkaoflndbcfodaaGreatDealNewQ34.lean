/-
  The row 'DealNew': a pack of the texts Dnw28 Da5, pruned to what the row uses.
-/
import Derived.Test.YtkaoflndbcfodaaGreatDealNewQ33
namespace Go.Proofs.YtkaoflndbcfodaaGreat
set_option maxHeartbeats 8000000
set_option maxRecDepth 100000
section
section
open Go.RowKit
def Dnr (w0:World) (B:Nat) (t:List Rq) (s5 s9 s11:Value) (wx:World):Prop:=
 ∃ (Q:List (Option Pc)) (O:List Int) (qP:Option Addr) (cP:Nat) (qO:Option Addr) (cO:Nat),s5 = .slice qP Q.length cP∧s9 = .slice qO O.length cO∧s11 = .int .i64 (dlC Q t O)∧Els wx qP 1 (Q.map ptrO)∧Els wx qO 1 (O.map inV)∧Q.length≤1000∧O.length≤1000∧
  (∀ p,some p ∈ Q→PcAt B wx t p∧p.N≤100000)∧Below w0.heap.size w0 wx
theorem ptrO_some (L:List Pc):(L.map some).map ptrO = (L.map (·.b)).map ptrB:=by
 rw [List.map_map,List.map_map]
 rfl
theorem mem_some {L:List Pc} {p:Pc} (h:some p ∈ L.map some):p ∈ L:=by
 obtain ⟨q,hq,e⟩:=List.mem_map.1 h
 cases e
 exact hq
theorem inV_set (H:List Int) {k:Nat} (_hk:k < H.length) (v:Int) (hk':k < (H.map inV).length):(H.map inV).set k ((H.map inV)[k].set 0 (.int .i64 v)) = (H.set k v).map inV:=by
 rw [List.map_set]
 congr 1
 rw [List.getElem_map]
 rfl
theorem zeros_inV (H:List Int):(H.map inV).flatten ++ List.replicate 65 (.int .i64 0) = ((H ++ List.replicate 65 0).map inV).flatten:=by
 rw [List.map_append,List.flatten_append]
 congr 1
section
variable {w0 w w':World} {B:Nat} {t:List Rq} {fls:List (List Ve)} {bs:List Nat} {d gP cP:Nat} {qK:Option Addr} {cK gB Hn i:Nat} {L:List Pc} {H:List Int}
theorem St28.bsE (h:St28 w0 B t fls bs d gP cP qK cK gB Hn i L H w):L.map (·.b) = bs:=by
 apply List.ext_getElem (by rw [List.length_map,h.len,h.bl])
 intro k h1 h2
 rw [List.length_map] at h1
 have:=(h.eq k (by rw [← h.len]; exact h1)).1
 rw [List.getD_eq_getElem?_getD,List.getElem?_eq_getElem h1,List.getD_eq_getElem?_getD,List.getElem?_eq_getElem h2] at this
 rw [List.getElem_map]
 exact this
theorem St28.pN (h:St28 w0 B t fls bs d gP cP qK cK gB Hn i L H w) (hi:i≤1000) {p:Pc} (hp:p ∈ L):p.N≤100000:=by
 obtain ⟨k,hk,rfl⟩:=List.mem_iff_getElem.1 hp
 have:=(h.eq k (by rw [← h.len]; exact hk)).2.2
 rw [List.getD_eq_getElem?_getD,List.getElem?_eq_getElem hk] at this
 have:L[k].N≤8 + i:=this
 omega
theorem St28.dnr (h:St28 w0 B t fls bs d gP cP qK cK gB Hn i L H w) (hi:i≤1000) {S:Nat→Prop} (hm:Mod S w w') (h1:∀ p ∈ L,∀ k,S k→¬ p.F k) (h2:¬ S gB) (h3:∀ k,S k→w0.heap.size≤k) {O:List Int} {qO:Option Addr} {cO cB:Nat} {c:Int} (hO:Els w' qO 1 (O.map inV)) (hOl:O.length≤1000) (hc:dlC (L.map some) t O = c):
  Dnr w0 B t (.slice (some ⟨gB,0,none⟩) fls.length cB) (.slice qO O.length cO) (.int .i64 c) w':=
 ⟨L.map some,O,_,cB,qO,cO,by rw [List.length_map,h.len],rfl,by rw [hc],by rw [ptrO_some,h.bsE]; exact els_modP h.pls hm (fun a ha _ hk=>by cases ha; exact h2 hk),hO,by rw [List.length_map]; have:=h.dl.many.1; omega,hOl,
  fun p hp=>⟨(h.pcs.at_ p (mem_some hp)).mod hm (h1 p (mem_some hp)),h.pN hi (mem_some hp)⟩,h.lo.trans (hm.below h.lo.size h3)⟩
theorem mem_set_none {L:List Pc} {c:Nat} {p:Pc} (h:some p ∈ (L.map some).set c none):p ∈ L:=by
 rcases List.mem_or_eq_of_mem_set h with h | h
 ·exact mem_some h
 ·cases h
theorem set_noneE (L:List Pc) {c:Nat} (hc:c < ((L.map (·.b)).map ptrB).length):((L.map (·.b)).map ptrB).set c (((L.map (·.b)).map ptrB)[c].set 0 (.pointer none)) = ((L.map some).set c none).map ptrO:=by
 rw [List.map_set,ptrO_some]
 congr 1
 rw [List.getElem_map]
 rfl
end
theorem DealNew_walk (p pw:Option Addr) (cp cw:Nat) (B W:List Int) (n wd k nn x a1 z:Int) (w:World) (hA:DrA w p B n wd) (hW:DrA w pw W 0 0) (hnn:0≤nn∧nn < 256) (hx:0≤x∧x < 256) (h1:0≤a1∧a1 < 256) (_hz:wf64 z):
  Calls Tryz.prog 3 #[.agg (ddC p cp B n wd k pw W cw nn),.agg #[.int .u8 x,.int .u8 a1,.int .i64 z]] w fun e w'=>e = .returned (.bool true)∧Below w.heap.size w w':=by
 have hbo:=Lib.hid (fun wx (hb:Below w.heap.size w wx)=>both2_calls p pw cp cw B W n wd k nn wx (hA.below hb) (hW.below hb) hnn)
 obtain ⟨C,hC⟩:∃ C,ddC p cp B n wd k pw W cw nn = C:=⟨_,rfl⟩
 have hc6:C.size = 6:=by rw [← hC]; rfl
 rw [hC] at hbo ⊢
 clear hA hW hnn hC
 have hb0:=(new_below w (.cells C 26)).alloc (by simp) (.cells #[.int .u8 x,.int .u8 a1,.int .i64 z] 28)
 go_enter Tryz.func3,Tryz.ntmps3
 go_upto_region 1 with fail
 refine wp_world' (fun wx=>Blk wx w.heap.size C 26∧Blk wx (w.heap.size + 1) #[.int .u8 x,.int .u8 a1,.int .i64 z] 28∧Below w.heap.size w wx) ⟨(Blk.new _ _ _).alloc _,blk_newAtC (by simp) _ _,hb0⟩ ?_
 clear hb0
 rintro w1 ⟨hB,hBW,hb⟩
 go_wp2_with fail
 refine (works28_calls w1).mono ?_
 rintro e w2 ⟨rfl,hb2⟩
 have hm2:=(Mod.refl (fun _=>False) _).after hb2
 have hB2:=hB.mod hm2 (fun h=>h)
 replace hBW:=hBW.mod hm2 (fun h=>h)
 replace hb2:=hb.trans (hb2.mono hb.size)
 have hl1:=Lib.hid (run_load_row' (P:=Tryz.prog) w2 w.heap.size 26 C 26 _ hB2 Tryz.underlying26 rfl (by rw [hc6]; kernel_rfl))
 have hd1:=hbo.out w2 hb2
 have hlt2:=hBW.lt
 clear hB hb hB2 hbo hm2
 go_wp2_with (refine wpList_load_v rfl 26 _ rfl ⟨w.heap.size,0,none⟩ rfl _ hl1.out ?_)
 refine hd1.mono ?_
 clear hd1 hl1
 intro e w3 hBo
 obtain ⟨hb3,B0,t,gB,cB,CB,L,d,gP,cP,qK,cK,dd,gR,F,fls,Rs,H,qF,cF,pf,cR,pr,qss,qT,cT,qH,cH,hB0,rfl,hR,hown,-,-⟩:=hBo
 have hbw:=hb2.trans (hb3.mono hb2.size)
 have hB0w:w.heap.size≤B0:=Nat.le_trans hb2.size hB0
 have hS3:=hR.st hbw hB0w
 have hww3:=hbw.size
 have hn4:=hR.ok.many
 have hH8:=hR.ok.hl
 have ht8:=hR.ok.tl
 have hEH:=hR.hol
 have hBB:=hR.blk
 have hgB0:B0≤gB:=hR.lo.2.2.2.2.1
 replace hBW:=hBW.mod ((Mod.refl (fun _=>False) _).after hb3) (fun h=>h)
 have hl3:=Lib.hid (fun wx (hb:Below w3.heap.size w3 wx)=>run_cI28 (((hR.rd.below hb).box).cell (i:=3) rfl))
 rw [hR.len] at hown ⊢
 obtain ⟨bs,hbs⟩:∃ bs,L.map (·.b) = bs:=⟨_,rfl⟩
 have hpt:L.map ptrR = bs.map ptrB:=by rw [← hbs,List.map_map]; rfl
 rw [hbs] at hS3
 rw [hpt] at hown
 obtain ⟨Hn,hHn⟩:∃ Hn,H.length = Hn:=⟨_,rfl⟩
 rw [hHn] at hH8 hl3 hS3
 obtain ⟨Ln,hLn⟩:∃ Ln,fls.length = Ln:=⟨_,rfl⟩
 rw [hLn] at hn4 hown ⊢
 have hL0:(0:Int) < (Ln:Int):=by omega
 have hLb:(Ln:Int)≤9223372036854775807:=by omega
 obtain ⟨c,hcE⟩:∃ c:Nat,(c:Int) = a1 % (Ln:Int):=⟨(a1 % (Ln:Int)).toNat,by have:=Int.emod_nonneg a1 (show (Ln:Int) ≠ 0 by omega); omega⟩
 have hcL:c < Ln:=by have:=Int.emod_lt_of_pos a1 hL0; omega
 replace hLn:=Lib.hid hLn
 replace hcE:=Lib.hid hcE
 -- the owners' copy
 have ho1:=Lib.hid (World.ownsRow_made (base:=w3.heap.size) (e:=3) (size:=1) w3 #[] 0 (Nat.le_refl _) (by unfold maxLen; omega) rfl)
 have hlow1:=new_below w3 (.cells #[] 3)
 have hz1:=Lib.hid hlow1.size
 have hEH1:=Lib.hid (hEH.below hlow1)
 have hl31:=Lib.hid (hl3.out _ hlow1)
 have hHl:=Lib.hid hHn
 have hHm:=Lib.hid (show Hn = (H.map inV).length by rw [List.length_map,hHn])
 replace hlow1:=Lib.hid hlow1
 replace hS3:=Lib.hid hS3
 replace hown:=Lib.hid hown
 replace hBB:=Lib.hid hBB
 replace hBW:=Lib.hid hBW
 clear hR hb2 hb3 hbw hbs hHn hEH hl3 hpt
 go_upto_region 7 with (first | (refine wpList_bs0 rfl 35 0 rfl _ _ (rsl_inZ _) ?_) | (refine wpList_load_v rfl 35 _ rfl ⟨dd,3,none⟩ rfl _ hl31.out ?_) |
  (refine wpList_appE in_elD rfl _ _ rfl w3.heap.size hz1.out _ 0 [] rfl ho1.out (by omega) qH Hn cH _ rfl hEH1.out hHm.out (by omega) (inV_allD H) ?_; intro v34 w34 hO34 hg34; obtain ⟨q34,n34,c34,rfl⟩:=own_isS hO34))
 simp only [Nat.zero_add,List.nil_append] at hO34
 have hlow4:=grown_low hlow1.out (Nat.le_refl _) (Nat.le_refl _) ho1.out hg34
 obtain ⟨hEO,hnO,hcO,hqO⟩:=own_els (R:=H.map inV) (inV_lenD H) (by rw [List.length_map,hHl.out]; exact hO34) (by rw [List.length_map,hHl.out]; omega)
 rw [List.length_map,hHl.out] at hnO
 obtain rfl:Hn = n34:=hnO.symm
 have hS4:=hS3.out.below hlow4
 have hm34:=(Mod.refl (fun _=>False) w3).after hlow4
 have hBB4:=hBB.out.mod hm34 (fun h=>h)
 have hown4:=own_mod hown.out hm34 (fun _ _ h=>h)
 have hBW4:=hBW.out.mod hm34 (fun h=>h)
 have k0:=hBW4.cell (i:=0) (v:=.int .u8 x) rfl
 have k1:=hBW4.cell (i:=1) (v:=.int .u8 a1) rfl
 have k2:=hBW4.cell (i:=2) (v:=.int .i64 z) rfl
 have hlt3:=hm34.size
 have hgB3:=Lib.hid (show gB < w3.heap.size from hBB.out.lt)
 have hund:=hS3.out.und
 have hF3:=Lib.hid (show ∀ q ∈ L,∀ k,q.F k→k < w3.heap.size from hund.1)
 have hc0:=Lib.hid (show dlC (L.map some) t H = 0 from by rw [hS4.code H rfl]; exact hold_zero hS4.hol _ (Nat.le_refl _))
 replace hEO:=Lib.hid hEO
 replace hqO:=Lib.hid hqO
 replace hO34:=Lib.hid hO34
 replace hS4:=Lib.hid hS4
 replace hBB4:=Lib.hid hBB4
 replace hown4:=Lib.hid hown4
 replace hBW4:=Lib.hid hBW4
 replace hlow4:=Lib.hid hlow4
 have hsame:=Lib.hid (show Dnr w B0 t (.slice (some ⟨gB,0,none⟩) Ln cB) (.slice q34 Hn c34) (.int .i64 0) w34 from by
  have:=hS4.out.dnr (cB:=cB) (cO:=c34) (by omega) (Mod.refl (fun _=>False) _) (fun _ _ _ h=>h.elim) (fun h=>h) (fun _ h=>h.elim) hEO.out (by rw [hHl.out]; omega) hc0.out
  rwa [hLn.out,hHl.out] at this)
 clear hg34 ho1 hlow1 hz1 hEH1 hl31 hm34 hown hBB hBW hS3 hund hnO
 go_upto_block 0 with (refine wpList_v rfl (.int .i64 (c:Int)) (run_remD rfl rfl rfl h1.1 hL0 hcE.out hLb) ?_)
 go_cut [5,9,11,12,13,14,15] from 43 (fun s5 s9 s11 _ _ _ _ wx=>Dnr w B0 t s5 s9 s11 wx)
 case first=>
  have hx6:0≤x % 6∧x % 6 < 6:=⟨Int.emod_nonneg _ (by omega),Int.emod_lt_of_pos _ (by omega)⟩
  by_cases x0:x % 6 = 0
  ·have d0:(x % 6 == 0) = true:=beq_iff_eq.2 x0
   by_cases hH0:Hn = 0
   ·subst hH0
    go_wp2_with fail
    go_meet
    exact hsame.out
   ·have hHp:(Hn:Int) > 0:=by omega
    have hH0':(0:Int) < (Hn:Int):=by omega
    have hHb:(Hn:Int)≤9223372036854775807:=by omega
    obtain ⟨k,hkE⟩:∃ k:Nat,(k:Int) = a1 % (Hn:Int):=⟨(a1 % (Hn:Int)).toNat,by have:=Int.emod_nonneg a1 (show (Hn:Int) ≠ 0 by omega); omega⟩
    have hkH:k < Hn:=by have:=Int.emod_lt_of_pos a1 hH0'; omega
    have hkl:k < H.length:=by rw [hHl.out]; exact hkH
    obtain ⟨gO,CO,e,hBO,hgO,_⟩:=ownS_blk hO34.out (by omega)
    cases e
    obtain ⟨v,hv⟩:∃ v,H.getD k 0 = v:=⟨_,rfl⟩
    have hck:=inv_cell28 hEO.out hkl
    rw [hv] at hck
    have hcl:=Lib.hid (fun wx (hm:Mod (fun _=>False) w34 wx)=>run_i64D (hm.cell_of (fun h=>h) hck))
    have hcz:=Lib.hid (fun wx (hm:Mod (fun _=>False) w34 wx)=>run_i64D (hm.cell_of (fun h=>h) k2))
    replace hkE:=Lib.hid hkE
    replace hv:=Lib.hid hv
    replace hBO:=Lib.hid hBO
    replace hck:=Lib.hid hck
    go_upto_region 15 with (refine wpList_v rfl (.int .i64 (k:Int)) (run_remD rfl rfl rfl h1.1 hH0' hkE.out hHb) ?_)
    refine wp_region_later (w0:=w34) (S:=fun _=>False) (Mod.refl _ _) (by kernel_rfl) (by kernel_rfl) ?_
    iterate 2 (go_big_quiet_step (fail))
    refine wpQuiet_v rfl (.pointer (some ((⟨gO,0,none⟩:Addr).add k))) (by rintro _ ⟨z9,rfl⟩; exact run_ixIn rfl rfl rfl hkH) ?_
    simp only [Act.put,List.setIfInBounds_toArray,List.set_cons_succ,List.set_cons_zero]
    refine wpQuiet_v rfl (.int .i64 v) (by rintro _ ⟨z9,rfl⟩; exact run_load_v rfl rfl (hcl.out _ z9.mod)) ?_
    simp only [Act.put,List.setIfInBounds_toArray,List.set_cons_succ,List.set_cons_zero]
    refine wpQuiet_v rfl (.pointer (some ⟨w.heap.size + 1,2,none⟩)) (by rintro _ ⟨z9,rfl⟩; exact run_fldT rfl rfl (fun _=>by kernel_rfl)) ?_
    simp only [Act.put,List.setIfInBounds_toArray,List.set_cons_succ,List.set_cons_zero]
    refine wpQuiet_v rfl (.int .i64 z) (by rintro _ ⟨z9,rfl⟩; exact run_load_v rfl rfl (hcz.out _ z9.mod)) ?_
    simp only [Act.put,List.setIfInBounds_toArray,List.set_cons_succ,List.set_cons_zero]
    refine wpQuiet_v rfl (.bool (v != z)) (by rintro _ ⟨z9,rfl⟩; exact run_neqL rfl rfl rfl rfl) ?_
    simp only [Act.put,List.setIfInBounds_toArray,List.set_cons_succ,List.set_cons_zero]
    refine wpQuiet_nil ?_
    rintro _ ⟨z9,rfl⟩
    have hz5:=z9.mod
    generalize z9.val = w5 at *
    have hb5:Below w34.heap.size w34 w5:=hz5.below (Nat.le_refl _) (fun _ h=>h.elim)
    have k2':=hz5.cell_of (fun h=>h) k2
    have hck5:=hz5.cell_of (fun h=>h) hck.out
    rw [addr0P] at hck5
    have hfz5:=(hBO.out.mod hz5 (fun h=>h)).froz k
    have hm5:Mod (· = gO) w34 w5:=hz5.mono (fun _ _ h=>h.elim)
    have hm6:Mod (· = gO) w34 (w5.setCell ⟨gO,k,none⟩ (.int .i64 z)):=hm5.setCell (p:=⟨gO,k,none⟩) (fun _=>rfl) _
    have hE6:=els_setP (hBO.out.mod hz5 (fun h=>h)) (els_modP hEO.out hz5 (fun _ _ _ h=>h)) (K:=k) (by rw [List.length_map]; exact hkl) (J:=0) (by omega) (.int .i64 z)
    rw [Nat.mul_one,Nat.add_zero,inV_set H hkl] at hE6
    have hgF:∀ q ∈ L,¬ q.F gO:=fun q hq hF=>by have:=hF3.out q hq gO hF; omega
    have hgl:=hS4.out.gl
    have hS6:Dnr w B0 t (.slice (some ⟨gB,0,none⟩) Ln cB) (.slice (some ⟨gO,0,none⟩) Hn c34) (.int .i64 (if v = z then 0 else 12)) (w5.setCell ⟨gO,k,none⟩ (.int .i64 z)):=by
     have hcode:dlC (L.map some) t (H.set k z) = if v = z then 0 else 12:=by
      rw [hS4.out.code _ List.length_set]
      by_cases e:v = z
      ·rw [if_pos e,show H.set k z = H from by
        rw [← e,← hv.out,List.getD_eq_getElem?_getD,List.getElem?_eq_getElem hkl]
        exact List.set_getElem_self hkl]
       exact hold_zero hS4.out.hol _ (Nat.le_refl _)
      ·rw [if_neg e]
       exact hold_odd hS4.out.hol hkl (by rw [hv.out]; exact e)
     have hgB:gB ≠ gO:=fun e=>by have:=hBB4.out; have h9:w34.heap[gB]? = some (.cells CB 42 (0,0)):=this; have h8:w34.heap[gO]? = some (.cells CO 3 (0,0)):=hBO.out; rw [e,h8] at h9; cases h9
     have:=hS4.out.dnr (cB:=cB) (cO:=c34) (by omega) hm6 (fun q hq k hk hF=>hgF q hq (hk ▸ hF)) hgB (fun k hk=>by have:=hS4.out.lo.size; have:=hgl.2.2; have:=hlow4.out.size; omega) hE6 (by rw [List.length_set,hHl.out]; omega) hcode
     rw [hLn.out,List.length_set,hHl.out] at this
     exact this
    replace hS6:=Lib.hid hS6
    clear hm6 hm5 hE6 hgF hgl hb5 hz5 hcl hcz
    by_cases e:v = z
    ·have dv:(v == z) = true:=beq_iff_eq.2 e
     have dv':(v != z) = false:=by rw [bne,dv]; rfl
     have hS7:=Lib.hid (show Dnr w B0 t (.slice (some ⟨gB,0,none⟩) Ln cB) (.slice (some ⟨gO,0,none⟩) Hn c34) (.int .i64 0) (w5.setCell ⟨gO,k,none⟩ (.int .i64 z)) from by have:=hS6.out; rwa [if_pos e] at this)
     clear hS6 e
     go_wp2_with (refine wpList_v rfl (.pointer (some ((⟨gO,0,none⟩:Addr).add k))) (run_ixIn (k:=k) rfl rfl rfl hkH) ?_)
     go_meet
     exact hS7.out
    ·have dv:(v == z) = false:=beq_eq_false_iff_ne.2 e
     have dv':(v != z) = true:=by rw [bne,dv]; rfl
     have hS7:=Lib.hid (show Dnr w B0 t (.slice (some ⟨gB,0,none⟩) Ln cB) (.slice (some ⟨gO,0,none⟩) Hn c34) (.int .i64 12) (w5.setCell ⟨gO,k,none⟩ (.int .i64 z)) from by have:=hS6.out; rwa [if_neg e] at this)
     clear hS6 e
     go_wp2_with (refine wpList_v rfl (.pointer (some ((⟨gO,0,none⟩:Addr).add k))) (run_ixIn (k:=k) rfl rfl rfl hkH) ?_)
     go_meet
     exact hS7.out
  have d0:(x % 6 == 0) = false:=beq_eq_false_iff_ne.2 x0
  by_cases x1:x % 6 = 1
  ·have d1:(x % 6 == 1) = true:=beq_iff_eq.2 x1
   have hcl:c < bs.length:=by rw [hS4.out.bl,hLn.out]; exact hcL
   have hck:w34.cell? ⟨gB,c,none⟩ = some (.pointer (some ⟨bs.getD c 0,0,none⟩)):=by
    have:=hS4.out.pls.cells ⟨gB,0,none⟩ rfl c (ptrB (bs.getD c 0)) 0 (.pointer (some ⟨bs.getD c 0,0,none⟩)) (by rw [List.getElem?_map,List.getElem?_eq_getElem hcl,List.getD_eq_getElem?_getD,List.getElem?_eq_getElem hcl]; rfl) rfl
    rw [Nat.add_zero,Nat.mul_one,addr0P] at this
    exact this
   have hfz:=hBB4.out.froz c
   have hm6:Mod (· = gB) w34 (w34.setCell ⟨gB,c,none⟩ (.pointer none)):=(Mod.refl (· = gB) w34).setCell (p:=⟨gB,c,none⟩) (fun _=>rfl) _
   have hE6:=els_setP hBB4.out hS4.out.pls (K:=c) (by rw [List.length_map]; exact hcl) (J:=0) (by omega) (.pointer none)
   rw [Nat.mul_one,Nat.add_zero] at hE6
   have hbsE:=hS4.out.bsE
   have hgO:∀ a,q34 = some a→¬ a.block = gB:=fun a ha e=>by have h9:=(hqO.out a ha).1; have h8:=hBB4.out.lt; have:=hgB3.out; omega
   have hS6:=Lib.hid (show Dnr w B0 t (.slice (some ⟨gB,0,none⟩) Ln cB) (.slice q34 Hn c34) (.int .i64 1) (w34.setCell ⟨gB,c,none⟩ (.pointer none)) from by
    have hLl:L.length = Ln:=by rw [hS4.out.len,hLn.out]
    refine ⟨(L.map some).set c none,H,_,cB,q34,c34,by rw [List.length_set,List.length_map,hLl],by rw [hHl.out],?_,?_,els_modP hEO.out hm6 (fun a ha _=>hgO a ha),by rw [List.length_set,List.length_map]; omega,by rw [hHl.out]; omega,fun q hq=>⟨(hS4.out.pcs.at_ q (mem_set_none hq)).mod hm6 (fun k hk hF=>hS4.out.nB q (mem_set_none hq) (hk ▸ hF)),hS4.out.pN (by omega) (mem_set_none hq)⟩,hS4.out.lo.trans (hm6.below hS4.out.lo.size (fun k hk=>by omega))⟩
    ·rw [dlC_nilC (by rw [List.length_map]; omega) (by rw [hHl.out]; omega) (by rw [List.length_map]; omega)]
    ·subst hbsE
     rw [set_noneE L] at hE6
     exact hE6)
   clear hm6 hE6 hbsE hgO
   go_wp2_with (refine wpList_v rfl (.pointer (some ((⟨gB,0,none⟩:Addr).add c))) (run_ixPl (k:=c) rfl rfl rfl hcL) ?_)
   go_meet
   exact hS6.out
  have d1:(x % 6 == 1) = false:=beq_eq_false_iff_ne.2 x1
  by_cases x2:x % 6 = 2
  ·have d2:(x % 6 == 2) = true:=beq_iff_eq.2 x2
   have hcl:c < bs.length:=by rw [hS4.out.bl,hLn.out]; exact hcL
   have hcp:=Lib.hid (hS4.out.cell (by rw [hLn.out]; exact hcL:c < fls.length))
   obtain ⟨bc,hbc⟩:∃ bc,bs.getD c 0 = bc:=⟨_,rfl⟩
   rw [hbc] at hcp
   have hoA:=Lib.hid (own_mod hown4.out ((Mod.refl (fun _=>False) w34).alloc (.cells #[.pointer (some ⟨bc,0,none⟩)] 42)) (fun _ _ h=>h))
   have hzA:=Lib.hid (show B0≤(w34.alloc (.cells #[.pointer (some ⟨bc,0,none⟩)] 42)).heap.size from by have:=hS4.out.gl.2.1; simp; omega)
   go_wp2_with (first | (refine wpList_v rfl (.pointer (some ((⟨gB,0,none⟩:Addr).add c))) (run_ixPl (k:=c) rfl rfl rfl hcL) ?_) | (refine wpList_load_v rfl 42 _ rfl ((⟨gB,0,none⟩:Addr).add c) rfl _ hcp.out ?_) |
    (refine wpList_bs1 rfl 30 1 0 _ rfl (.pointer (some ⟨bc,0,none⟩)) rfl _ _ (rsl_p28 _ _) ?_) |
    (refine wpList_appG2 pl_elD rfl _ _ rfl B0 hzA.out _ Ln _ rfl hoA.out (by omega) ⟨w34.heap.size,0,none⟩ 1 1 [.pointer (some ⟨bc,0,none⟩)] rfl rfl (by omega) (row_cells (Blk.new w34 _ _)) (by simp [Value.oneCell']) ?_; intro v8 w8 hO8 hg8 hd8))
   obtain ⟨q8,n8,c8,rfl⟩:=own_isS hO8
   have hbsE:=hS4.out.bsE
   have hLl:L.length = Ln:=by rw [hS4.out.len,hLn.out]
   have hpc:(L.getD c pc0).b = bc:=by rw [← hbc]; exact (hS4.out.eq c (by rw [hLn.out]; exact hcL)).1
   have hR8:(bs.map ptrB).flatten ++ [.pointer (some ⟨bc,0,none⟩)] = ((L.map some ++ [some (L.getD c pc0)]).map ptrO).flatten:=by
    rw [List.map_append,List.flatten_append,ptrO_some,hbsE]
    show _ = _ ++ [Value.pointer (some ⟨(L.getD c pc0).b,0,none⟩)]
    rw [hpc]
   have hQl:(L.map some ++ [some (L.getD c pc0)]).length = Ln + 1:=by rw [List.length_append,List.length_map,hLl]; rfl
   rw [hR8] at hO8
   have hlen1:∀ x ∈ (L.map some ++ [some (L.getD c pc0)]).map ptrO,x.length = 1:=fun x hx=>by
    obtain ⟨o,_,rfl⟩:=List.mem_map.1 hx
    rfl
   obtain ⟨hE8,hn8,_,_⟩:=own_els (R:=(L.map some ++ [some (L.getD c pc0)]).map ptrO) hlen1 (by rw [List.length_map,hQl]; exact hO8) (by rw [List.length_map,hQl]; omega)
   rw [List.length_map] at hn8
   have hm8:Mod (· = gB) w34 w8:=((Mod.refl (· = gB) w34).alloc (.cells #[.pointer (some ⟨bc,0,none⟩)] 42)).grown hg8 (fun k hk _=>by cases hk; rfl)
   have hS6:=Lib.hid (show Dnr w B0 t (.slice q8 n8 c8) (.slice q34 Hn c34) (.int .i64 13) w8 from by
    refine ⟨L.map some ++ [some (L.getD c pc0)],H,q8,c8,q34,c34,by rw [hn8],by rw [hHl.out],?_,hE8,els_modP hEO.out hm8 (fun a ha _ e=>by have h9:=(hqO.out a ha).1; have:=hgB3.out; omega),by rw [hQl]; omega,by rw [hHl.out]; omega,fun q hq=>?_,hS4.out.lo.trans (hm8.below hS4.out.lo.size (fun k hk=>by omega))⟩
    ·rw [dlC_twice (by omega) (by rw [hHl.out]; omega) (by omega)]
    ·have hq':q ∈ L:=by
      rcases List.mem_append.1 hq with h | h
      ·exact mem_some h
      ·rw [List.mem_singleton] at h
       cases h
       exact mem_getD (by omega)
     exact ⟨(hS4.out.pcs.at_ q hq').mod hm8 (fun k hk hF=>hS4.out.nB q hq' (hk ▸ hF)),hS4.out.pN (by omega) hq'⟩)
   clear hO8 hg8 hd8 hE8 hm8 hR8 hlen1 hoA hzA hcp
   go_wp2_with fail
   go_meet
   exact hS6.out
  have d2:(x % 6 == 2) = false:=beq_eq_false_iff_ne.2 x2
  by_cases x3:x % 6 = 3
  ·have d3:(x % 6 == 3) = true:=beq_iff_eq.2 x3
   have hlw:=hlow4.out.size
   go_wp2_with (refine wpList_appZ rfl _ rfl w3.heap.size hlw _ Hn _ rfl hO34.out (by omega) ?_; intro v8 w8 hO8 hg8)
   obtain ⟨q8,n8,c8,rfl⟩:=own_isS hO8
   have hO8':w8.ownsRow w3.heap.size 3 1 (.slice q8 n8 c8) (H ++ List.replicate 65 0).length ((H ++ List.replicate 65 0).map inV).flatten:=by
    rw [← zeros_inV,List.length_append,List.length_replicate,hHl.out]
    exact hO8
   obtain ⟨hE8,hn8,_,_⟩:=own_els (R:=(H ++ List.replicate 65 0).map inV) (inV_lenD _) (by rw [List.length_map]; exact hO8') (by rw [List.length_map,List.length_append,List.length_replicate,hHl.out]; omega)
   rw [List.length_map] at hn8
   have hb8:=grown_low (Below.refl w3.heap.size w34) (Nat.le_refl _) hlw hO34.out hg8
   have hm8:Mod (fun k=>w3.heap.size≤k) w34 w8:=Mod.of_below hb8 (fun _ h _=>h)
   go_meet
   rw [hn8]
   have:=hS4.out.dnr (cB:=cB) (cO:=c8) (by omega) hm8 (fun q hq k hk hF=>by have:=hF3.out q hq k hF; omega) (by have:=hgB3.out; omega) (fun k hk=>by omega) hE8 (by rw [List.length_append,List.length_replicate,hHl.out]; omega) (dlC_65 (Q:=L.map some) (t:=t) (H:=H ++ List.replicate 65 0) (.inr (by rw [List.length_append,List.length_replicate]; omega)))
   rw [hLn.out] at this
   exact this
  have d3:(x % 6 == 3) = false:=beq_eq_false_iff_ne.2 x3
  by_cases x4:x % 6 = 4
  ·have d4:(x % 6 == 4) = true:=beq_iff_eq.2 x4
   by_cases hH0:Hn = 0
   ·subst hH0
    go_wp2_with fail
    go_meet
    exact hsame.out
   have hHp:(Hn:Int) > 0:=by omega
   by_cases hLn0:¬ (Ln:Int) > 1
   ·go_wp2_with fail
    go_meet
    exact hsame.out
   have hLn1:(Ln:Int) > 1:=by omega
   clear hLn0
   have hk0:0 < Hn:=by omega
   have hkl:0 < H.length:=by rw [hHl.out]; exact hk0
   obtain ⟨f,hfF,hf⟩:=hS4.out.fine hk0
   have hfL:f < Ln:=by rw [← hLn.out]; exact hfF
   obtain ⟨a,rfl⟩:=hEO.out.some_of (k:=0) (by rw [List.length_map]; exact hkl)
   have hck:=inv_cell28 hEO.out hkl
   rw [hf] at hck
   have hck0:w34.cell? a = some (.int .i64 (f:Int)):=by simpa [Addr.add] using hck
   have s4:IntKind.i64.wrap ((f:Int) + 1) = (f:Int) + 1:=IntWalk.i64_in _ (by omega)
   obtain ⟨o,hoE⟩:∃ o:Nat,(o:Int) = ((f:Int) + 1) % (Ln:Int):=⟨(((f:Int) + 1) % (Ln:Int)).toNat,by have:=Int.emod_nonneg ((f:Int) + 1) (show (Ln:Int) ≠ 0 by omega); omega⟩
   have hoL:o < Ln:=by have:=Int.emod_lt_of_pos ((f:Int) + 1) hL0; omega
   have hof:f ≠ o:=fun e=>by
    have h9:((f:Int) + 1) % (Ln:Int) = (f:Int):=by rw [← hoE,← e]
    by_cases h8:f + 1 = Ln
    ·rw [show (f:Int) + 1 = (Ln:Int) by omega,Int.emod_self] at h9
     omega
    ·rw [Int.emod_eq_of_lt (by omega) (by omega)] at h9
     omega
   replace hoE:=Lib.hid hoE
   have hoF:o < fls.length:=by rw [hLn.out]; exact hoL
   have hcp:=Lib.hid (hS4.out.cell hoF)
   have hput:=hS4.out.pcs.put hS4.out.gl.2.1 (hS4.out.mem hoF) (by have:=(hS4.out.eq o hoF).2.2; omega) 0 (by unfold wf64; omega)
   rw [(hS4.out.eq o hoF).1] at hput
   obtain ⟨bo,hbo'⟩:∃ bo,bs.getD o 0 = bo:=⟨_,rfl⟩
   rw [hbo'] at hput hcp
   obtain ⟨p2,hp2⟩:∃ p2,L.getD o pc0 = p2:=⟨_,rfl⟩
   rw [hp2] at hput
   obtain ⟨U,hU⟩:∃ U,pputP p2.fl p2.rows t 0 = U:=⟨_,rfl⟩
   rw [hU] at hput
   replace hput:=Lib.hid hput
   have hf0:(0:Int)≤(f:Int) + 1:=by omega
   replace hck0:=Lib.hid hck0
   replace hof:=Lib.hid hof
   have hk9:=Lib.hid hck0.out
   go_upto_region 30 with (first | (refine wpList_v rfl (.int .i64 (o:Int)) (run_remD rfl rfl rfl hf0 hL0 hoE.out hLb) ?_) | (refine wpList_load_v rfl 3 _ rfl a rfl _ (run_i64D hk9.out) ?_))
   go_wp2_with (first | (refine wpList_v rfl (.pointer (some ((⟨gB,0,none⟩:Addr).add o))) (run_ixPl (k:=o) rfl rfl rfl hoL) ?_) | (refine wpList_load_v rfl 42 _ rfl ((⟨gB,0,none⟩:Addr).add o) rfl _ hcp.out ?_))
   refine hput.out.mono ?_
   clear hput hcp
   rintro e w8 ⟨rfl,hm8,F',hF',hP8⟩
   have hoLl:o < L.length:=hS4.out.mem hoF
   have hfLl:f < L.length:=hS4.out.mem hfF
   obtain ⟨L2,hL2⟩:∃ L2,L.set o { p2 with N:=p2.N + 1,rows:=U.1,F:=F' } = L2:=⟨_,rfl⟩
   rw [hL2] at hP8
   have hL2l:L2.length = L.length:=by rw [← hL2,List.length_set]
   have hL2p:L2.map ptrR = L.map ptrR:=by rw [← hL2]; exact set_ptr L hoLl (by rw [hp2])
   have hL2b:(L2.map some).map ptrO = bs.map ptrB:=by
    have h9:L2.map ptrR = (L2.map (·.b)).map ptrB:=by rw [List.map_map]; rfl
    have h8:L.map ptrR = (L.map (·.b)).map ptrB:=by rw [List.map_map]; rfl
    rw [ptrO_some,← h9,hL2p,h8,hS4.out.bsE]
   have hown2:=(hS4.out.pcs.get hoLl).own
   have hnB2:=hS4.out.nB _ (mem_getD (d:=pc0) hoLl)
   rw [hp2] at hown2 hnB2
   have hPo:=(hS4.out.pcs.get hoLl).2
   rw [hp2] at hPo
   have hcode:dlC (L2.map some) t H = holdKR (rwsL L2) t H H.length:=dlC_many (by rw [hL2l]; exact hS4.out.dl.many.1) hS4.out.dl.many.2 (fun i j hi hj hij=>hP8.ne hi hj hij)
   have hat:∀ k,L2.getD k pc0 = if o = k∧o < L.length then { p2 with N:=p2.N + 1,rows:=U.1,F:=F' } else L.getD k pc0:=fun k=>by rw [← hL2,getD_setS]
   have hE8:Els w8 (some ⟨gB,0,none⟩) 1 (bs.map ptrB):=els_modP hS4.out.pls hm8 (fun b hb _ hk=>by
    cases hb
    rcases hk with e | e
    ·simp only at e
     exact hnB2 (e ▸ hown2.2.1)
    ·simp only at e
     exact hnB2 (e ▸ hown2.2.2.1))
   have hmk:∀ cc:Int,dlC (L2.map some) t H = cc→Dnr w B0 t (.slice (some ⟨gB,0,none⟩) Ln cB) (.slice (some a) Hn c34) (.int .i64 cc) w8:=fun cc hcc=>by
    refine ⟨L2.map some,H,_,cB,some a,c34,by rw [List.length_map,hL2l,hS4.out.len,hLn.out],by rw [hHl.out],by rw [hcc],by rw [hL2b]; exact hE8,els_modP hEO.out hm8 (fun b hb _ hk=>?_),by rw [List.length_map,hL2l,hS4.out.len,hLn.out]; omega,by rw [hHl.out]; omega,fun q hq=>⟨hP8.at_ q (mem_some hq),?_⟩,hS4.out.lo.trans (hm8.below hS4.out.lo.size (fun k hk=>?_))⟩
    ·have h9:=(hqO.out b hb).1
     have h8:=hF3.out p2 (by rw [← hp2]; exact mem_getD (d:=pc0) hoLl)
     rcases hk with e | e
     ·have:=h8 _ hown2.2.1; omega
     ·have:=h8 _ hown2.2.2.1; omega
    ·have hq2:=mem_some hq
     rw [← hL2] at hq2
     rcases List.mem_or_eq_of_mem_set hq2 with h | h
     ·exact hS4.out.pN (by omega) h
     ·rw [h]
      have:=(hS4.out.eq o hoF).2.2
      rw [hp2] at this
      show p2.N + 1≤100000
      omega
    ·have h9:=hPo.2 k
     have h8:=hS4.out.gl.2.2
     rcases hk with e | e
     ·have:=hPo.2 _ (e ▸ hown2.2.1); omega
     ·have:=hPo.2 _ (e ▸ hown2.2.2.1); omega
   have hho:=hS4.out.hol
   have hrl:(rwsL L2).length = Ln:=by unfold rwsL; rw [List.length_map,hL2l,hS4.out.len,hLn.out]
   by_cases hz:U.2.2 = 0
   ·have dz:(U.2.2 == 0) = true:=beq_iff_eq.2 hz
    have h13:dlC (L2.map some) t H = 13:=by
     rw [hcode]
     refine hold_two hkl (by omega) hf hof.out (by omega) (by omega) ?_ ?_
     ·rw [rwsL_at,hat f,if_neg (fun e=>hof.out e.1.symm),← rwsL_at]
      exact ((hho 0 hkl).2 f).2 (by rw [hf])
     ·rw [rwsL_at,hat o,if_pos ⟨rfl,hoLl⟩]
      have:=(put_where (r:=0) hPo.1 (by rw [hU]; exact hz) 0).2 (.inl rfl)
      rw [hU] at this
      exact this
    have hfin:=Lib.hid (hmk 13 h13)
    clear hmk hcode hat hP8 hm8 hho
    go_wp2_with fail
    go_meet
    exact hfin.out
   ·have dz:(U.2.2 == 0) = false:=beq_eq_false_iff_ne.2 hz
    have hno:=put_wno hPo.1 (by rw [hU]; exact hz)
    rw [hU] at hno
    have h00:dlC (L2.map some) t H = 0:=by
     rw [hcode]
     refine hold_zero ?_ _ (Nat.le_refl _)
     refine holdsR_of (by unfold rwsL; rw [List.length_map,List.length_map,hL2l]) (fun k=>?_) hho
     rw [rwsL_at,rwsL_at,hat k]
     by_cases e:o = k
     ·rw [if_pos ⟨e,hoLl⟩,← e,hp2]
      exact hno.symm
     ·rw [if_neg (fun h=>e h.1)]
    have hfin:=Lib.hid (hmk 0 h00)
    clear hmk hcode hat hP8 hm8 hho
    go_wp2_with fail
    go_meet
    exact hfin.out
  have d4:(x % 6 == 4) = false:=beq_eq_false_iff_ne.2 x4
  have hS6:=Lib.hid (show Dnr w B0 t (.slice none 0 0) (.slice q34 Hn c34) (.int .i64 11) w34 from ⟨[],H,none,0,q34,c34,rfl,by rw [hHl.out],by rw [dlC_65 (.inl (by simp))],⟨(fun _=>rfl),(fun x hx=>by cases hx),by simp,(fun a ha=>by cases ha)⟩,hEO.out,by simp,by rw [hHl.out]; omega,(fun q hq=>by cases hq),hS4.out.lo⟩)
  go_wp2_with fail
  go_meet
  exact hS6.out
 case rest=>
  clear hsame hS4 hBB4 hown4 hBW4 hEO hqO hO34 hF3 hgB3 hc0 k0 k1 k2 hlow4
  obtain ⟨Q,O,qP,cP',qO,cO',rfl,rfl,rfl,hEQ,hEO,hQl,hOl,hPQ,hlo⟩:=hcut
  have hnew:=dnew_calls (B:=B0) (t:=t) Q O qP qO cP' cO' wc hEQ hEO hQl hOl (fun q hq=>(hPQ q hq).1) (by omega) (fun q hq=>(hPQ q hq).2)
  obtain ⟨X,hX⟩:∃ X,dlC Q t O = X:=⟨_,rfl⟩
  unfold DnPost28 at hnew
  rw [hX] at hnew ⊢
  obtain ⟨nQ,hnQ⟩:∃ nQ,Q.length = nQ:=⟨_,rfl⟩
  obtain ⟨nO,hnO⟩:∃ nO,O.length = nO:=⟨_,rfl⟩
  rw [hnQ,hnO] at hnew
  rw [hnQ,hnO]
  replace hnew:=Lib.hid hnew
  replace hlo:=Lib.hid hlo
  clear hEQ hEO hPQ hX hnQ hnO
  have d1:(X == X) = true:=beq_self_eq_true _
  go_wp2_with fail
  refine hnew.out.mono ?_
  clear hnew
  rintro e w9 ⟨hb9,hor⟩
  have hlo9:=Lib.hid (hlo.out.trans (hb9.mono hlo.out.size))
  clear hb9 hlo
  rcases hor with ⟨hX0,rfl⟩ | ⟨hX0,d9,gP9,cP9,qH9,cH9,rfl,hDl,-,-,-⟩
  ·have d2:(X == 0) = false:=beq_eq_false_iff_ne.2 hX0
   clear hX0
   go_wp2_with fail
   go_ret
   exact ⟨rfl,hlo9.out⟩
  ·subst hX0
   have hDl9:=Lib.hid hDl
   clear hDl
   go_wp2_with fail
   go_ret
   exact ⟨rfl,hlo9.out⟩
end
end
section
open Go.ChangeShapes Go.WideShapes Go.ChangeAt Go.RowKit
theorem i64_of28 {n:Int} (h:(Lit.int .i64 n).wf = true):wf64 n:=by
 have:-9223372036854775808≤n∧n≤9223372036854775807:=by simpa [Lit.wf,IntKind.min,IntKind.max,IntKind.signed,IntKind.bits] using h
 unfold wf64
 omega
theorem arg_bend {H:Type} {enc:TypeId × Value→H} {W:World} {base:Nat} {v:Value} {d:DataW H} {q:List MemPlace} (hv:Value.okWide Tryz.prog W .any base 28 v) (h:DataW.Trod enc Tryz.prog W 0 (fun _=>true) true 28 v d q):
  ∃ x y z:Int,(0≤x∧x < 256)∧(0≤y∧y < 256)∧wf64 z∧v = .agg #[.int .u8 x,.int .u8 y,.int .i64 z]:=by
 obtain ⟨C,rfl,hsz0⟩:=okWide_struct Tryz.underlying28 hv
 have c3:Tryz.prog.cellsOf 28 = 3:=by kernel_rfl
 have c8:Tryz.prog.cellsOf 5 = 1:=by kernel_rfl
 have cI:Tryz.prog.cellsOf 3 = 1:=by kernel_rfl
 obtain ⟨fuel,hf⟩:=h
 obtain ⟨x,ex,wx⟩:=fld_int Tryz.underlying28 hf 0 _ rfl c8 Tryz.underlying5
 obtain ⟨y,ey,wy⟩:=fld_int Tryz.underlying28 hf 1 _ rfl c8 Tryz.underlying5
 obtain ⟨z,ez,wz⟩:=fld_int Tryz.underlying28 hf 2 _ rfl cI Tryz.underlying3
 have e:C = [Value.int .u8 x,.int .u8 y,.int .i64 z].toArray:=agg_eq (by rw [hsz0,c3]; rfl) (fun j v hj=>by
  match j with
  | 0=>cases hj; exact ex
  | 1=>cases hj; exact ey
  | 2=>cases hj; exact ez
  | j + 3=>simp at hj)
 exact ⟨x,y,z,u8_of wx,u8_of wy,i64_of28 wz,by rw [e]⟩
end
end Go.Proofs.YtkaoflndbcfodaaGreat
