/-
  The row 'DealNew': a pack of the texts Dea, pruned to what the row uses.
-/
import Derived.Test.YtkaoflndbcfodaaGreatDealNewQ23
namespace Go.Proofs.YtkaoflndbcfodaaGreat
set_option maxHeartbeats 8000000
set_option maxRecDepth 100000
section
section
open Go.RowKit
def ptrR (p:Pc):List Value:=[.pointer (some ⟨p.b,0,none⟩)]
structure DlIn (w:World) (d:Nat) (L:List Pc) (H:List Int) (gP cP:Nat) (qH:Option Addr) (cH:Nat):Prop where
 box:Blk w d #[.slice (some ⟨gP,0,none⟩) L.length cP,.slice qH H.length cH] 92
 pls:Els w (some ⟨gP,0,none⟩) 1 (L.map ptrR)
 hol:Els w qH 1 (H.map inV)
 hb:H ≠ []→∃ gH C,qH = some ⟨gH,0,none⟩∧Blk w gH C 3
 lt:d < w.heap.size∧gP < w.heap.size
 ap:∀ p ∈ L,¬ p.F d∧¬ p.F gP∧∀ a,qH = some a→H ≠ []→¬ p.F a.block
 nP:∀ a,qH = some a→H ≠ []→a.block ≠ gP
 many:(1≤L.length∧L.length≤8)∧H.length≤64
section
variable {w w':World} {d:Nat} {L:List Pc} {H:List Int} {gP cP:Nat} {qH:Option Addr} {cH:Nat}
theorem DlIn.mod (h:DlIn w d L H gP cP qH cH) {S:Nat→Prop} (hm:Mod S w w') (h1:¬ S d) (h2:¬ S gP) (h3:∀ a,qH = some a→H ≠ []→¬ S a.block):DlIn w' d L H gP cP qH cH:=
 ⟨h.box.mod hm h1,els_modP h.pls hm (fun a ha _ s=>by cases ha; exact h2 s),els_modP h.hol hm (fun a ha h0 s=>h3 a ha (fun e=>h0 (by rw [e]; rfl)) s),
  fun h0=>by
   obtain ⟨gH,C,e,hB⟩:=h.hb h0
   exact ⟨gH,C,e,hB.mod hm (fun s=>h3 _ e h0 s)⟩,
  ⟨Nat.lt_of_lt_of_le h.lt.1 hm.size,Nat.lt_of_lt_of_le h.lt.2 hm.size⟩,h.ap,h.nP,h.many⟩
theorem DlIn.below (h:DlIn w d L H gP cP qH cH) (hb:Below w.heap.size w w'):DlIn w' d L H gP cP qH cH:=h.mod ((Mod.refl (fun _=>False) w).after hb) (fun h=>h) (fun h=>h) (fun _ _ _ h=>h)
theorem DlIn.ptr (h:DlIn w d L H gP cP qH cH) {i:Nat} (hi:i < L.length):w.cell? ((⟨gP,0,none⟩:Addr).add i) = some (.pointer (some ⟨(L.getD i pc0).b,0,none⟩)):=by
 have:=h.pls.cells _ rfl i (ptrR (L.getD i pc0)) 0 (.pointer (some ⟨(L.getD i pc0).b,0,none⟩)) (by rw [List.getElem?_map,List.getElem?_eq_getElem hi,List.getD_eq_getElem?_getD,List.getElem?_eq_getElem hi]; rfl) rfl
 simpa using this
theorem DlIn.own (h:DlIn w d L H gP cP qH cH) {r:Nat} (hr:r < H.length):∃ gH,qH = some ⟨gH,0,none⟩∧w.cell? ((⟨gH,0,none⟩:Addr).add r) = some (.int .i64 (H.getD r 0)):=by
 obtain ⟨gH,C,e,hB⟩:=h.hb (fun e=>by rw [e] at hr; simp at hr)
 have:=h.hol.cells _ e r (inV (H.getD r 0)) 0 (.int .i64 (H.getD r 0)) (by rw [List.getElem?_map,List.getElem?_eq_getElem hr,List.getD_eq_getElem?_getD,List.getElem?_eq_getElem hr]; rfl) rfl
 exact ⟨gH,e,by simpa using this⟩
end
section
variable {ρ:Operand→Value} {o:Oper} {w:World} {x y:Operand}
theorem run_ixPl {a:Addr} {n c k:Nat} (ho:o.op = .indexAddr 30 x y) (hx:ρ x = .slice (some a) n c) (hy:ρ y = .int .i64 k) (hk:k < n):(execOp ρ o).run Tryz.prog w = .ok (.value (.pointer (some (a.add k)))) w:=by
 have h0:(0:Int)≤(k:Int):=by omega
 have h1:(k:Int) < (n:Int):=by omega
 have h2:((k:Int)).toNat = k:=by omega
 unfold execOp
 simp only [ho,hx,hy]
 go_simp
theorem run_ixIn {a:Addr} {n c k:Nat} (ho:o.op = .indexAddr 35 x y) (hx:ρ x = .slice (some a) n c) (hy:ρ y = .int .i64 k) (hk:k < n):(execOp ρ o).run Tryz.prog w = .ok (.value (.pointer (some (a.add k)))) w:=by
 have h0:(0:Int)≤(k:Int):=by omega
 have h1:(k:Int) < (n:Int):=by omega
 have h2:((k:Int)).toNat = k:=by omega
 unfold execOp
 simp only [ho,hx,hy]
 go_simp
theorem run_neqL {a b:Int} {v:Bool} (hv:(a != b) = v) (ho:o.op = .binOp .neq 3 x y 3) (hx:ρ x = .int .i64 a) (hy:ρ y = .int .i64 b):(execOp ρ o).run Tryz.prog w = .ok (.value (.bool v)) w:=by
 subst hv
 unfold execOp
 simp only [ho,hx,hy]
 go_simp
 try rfl
theorem run_lssL {a b:Int} {v:Bool} (hv:decide (a < b) = v) (ho:o.op = .binOp .lss 3 x y 3) (hx:ρ x = .int .i64 a) (hy:ρ y = .int .i64 b):(execOp ρ o).run Tryz.prog w = .ok (.value (.bool v)) w:=by
 subst hv
 unfold execOp
 simp only [ho,hx,hy]
 go_simp
end
theorem run_cellPl {w:World} {p:Addr} {v:Option Addr} (h:w.cell? p = some (.pointer v)):(loadVar 42 p).run Tryz.prog w = .ok (.pointer v) w:=by go_simp
theorem run_cellDl {w:World} {p:Addr} {v:Option Addr} (h:w.cell? p = some (.pointer v)):(loadVar 31 p).run Tryz.prog w = .ok (.pointer v) w:=by go_simp
theorem run_cellPs {w:World} {p:Addr} {q:Option Addr} {n c:Nat} (h:w.cell? p = some (.slice q n c)):(loadVar 30 p).run Tryz.prog w = .ok (.slice q n c) w:=by go_simp
theorem run_cellIs {w:World} {p:Addr} {q:Option Addr} {n c:Nat} (h:w.cell? p = some (.slice q n c)):(loadVar 35 p).run Tryz.prog w = .ok (.slice q n c) w:=by go_simp
theorem run_i64D {w:World} {p:Addr} {n:Int} (hc:w.cell? p = some (.int .i64 n)):(loadVar 3 p).run Tryz.prog w = .ok (.int .i64 n) w:=by go_simp
theorem dany_calls (d n cP:Nat) (qP:Option Addr) (f:FuncId) (caps:Array Value) (Pd:Nat→Bool) (w:World) (hk:w.cell? ⟨d,0,none⟩ = some (.slice qP n cP)) (hn:n≤1000) (eg:∀ args w,(callFunc f args).run Tryz.prog w = .ok (.enter f args) w)
  (hf:∀ k,k < n→∀ wx,Below w.heap.size w wx→Calls Tryz.prog f (#[.int .i64 (k:Int)] ++ caps) wx fun e w'=>e = .returned (.bool (Pd k))∧Below wx.heap.size wx w'):
  Calls Tryz.prog 29 #[.pointer (some ⟨d,0,none⟩),.func (.func f) #[] caps] w fun e w'=>e = .returned (.bool ((List.range n).any Pd))∧Below w.heap.size w w':=by
 replace hf:=Lib.hid hf
 obtain ⟨RS,hRS⟩:∃ RS,(List.range n).any Pd = RS:=⟨_,rfl⟩
 rw [hRS]
 replace hRS:=Lib.hid hRS
 go_enter Tryz.func29,Tryz.ntmps29
 go_wp2_with fail
 go_loopw [11] (fun i wr=>∃ k:Nat,k≤n∧i = .int .i64 k∧Hid (∀ j,j < k→Pd j = false)∧Below w.heap.size w wr) (fun i _=>n - (intOf i).toNat)
 case atStart=>exact ⟨0,Nat.zero_le _,rfl,Lib.hid (fun j h=>by omega),Below.refl _ _⟩
 case round=>
  obtain ⟨k,hk',rfl,hR,hbr⟩:=hrel
  by_cases hlt:k < n
  ·have hltI:(k:Int) < (n:Int):=by omega
   have hk0:(0:Int)≤(k:Int):=by omega
   have s1:IntKind.i64.wrap ((k:Int) + 1) = (k:Int) + 1:=IntWalk.i64_in _ (by omega)
   have hfk:=Lib.hid (hf.out k hlt wr hbr)
   have hok:Hid (Pd k = false→∀ j,j < k + 1→Pd j = false):=Lib.hid (fun h j hj=>by
    by_cases e:j = k
    ·subst e; exact h
    ·exact hR.out j (by omega))
   have hbad:Hid (Pd k = true→RS = true):=Lib.hid (fun h=>by rw [← hRS.out]; exact List.any_eq_true.2 ⟨k,List.mem_range.2 hlt,h⟩)
   generalize Pd k = b at hfk hok hbad
   clear hR
   go_wp2_with fail
   refine hfk.out.mono ?_
   rintro e w2 ⟨rfl,hb2⟩
   replace hb2:=hbr.trans (hb2.mono hbr.size)
   clear hfk hbr
   cases b with
   | true=>
    have hy:=hbad.out rfl
    subst hy
    clear hbad hok hRS
    go_wp2
    go_ret
    exact ⟨rfl,hb2⟩
   | false=>
    have hok':=Lib.hid (hok.out rfl)
    clear hbad hok
    go_wp2_with fail
    go_roundw
    case rel=>exact ⟨k + 1,by omega,by simp,hok',hb2⟩
    case measure=>simp [intOf]; omega
  ·obtain rfl:k = n:=by omega
   have hn2:RS = false:=by
    rw [← hRS.out,List.any_eq_false]
    intro x hx
    rw [hR.out x (List.mem_range.1 hx)]
    decide
   subst hn2
   clear hR hRS
   go_wp2
   go_ret
   exact ⟨rfl,hbr⟩
section
variable {B:Nat} {w:World} {t:List Rq} {d:Nat} {L:List Pc} {H:List Int} {gP cP:Nat} {qH:Option Addr} {cH:Nat}
theorem dis_calls (h:DlIn w d L H gP cP qH cH) (c:Int):Calls Tryz.prog 33 #[.pointer (some ⟨d,0,none⟩),.int .i64 c] w fun e w'=>e = .returned (.bool (decide (0≤c∧c < (L.length:Int))))∧w = w':=by
 have k0:=h.box.cell (i:=0) rfl
 obtain ⟨n,hn⟩:∃ n,L.length = n:=⟨_,rfl⟩
 rw [hn] at k0 ⊢
 obtain ⟨RS,hRS⟩:∃ RS,decide (0≤c∧c < (n:Int)) = RS:=⟨_,rfl⟩
 rw [hRS]
 clear h hn
 by_cases h0:0≤c
 ·by_cases h1:c < (n:Int)
  ·rw [decide_eq_true ⟨h0,h1⟩] at hRS
   subst hRS
   go_enter Tryz.func33,Tryz.ntmps33
   go_wp2_with fail
   go_ret
   exact ⟨rfl,rfl⟩
  ·rw [decide_eq_false (fun h=>h1 h.2)] at hRS
   subst hRS
   go_enter Tryz.func33,Tryz.ntmps33
   go_wp2_with fail
   go_ret
   exact ⟨rfl,rfl⟩
 ·rw [decide_eq_false (fun h=>h0 h.1)] at hRS
  subst hRS
  go_enter Tryz.func33,Tryz.ntmps33
  go_wp2_with fail
  go_ret
  exact ⟨rfl,rfl⟩
theorem dholder_calls (h:DlIn w d L H gP cP qH cH) (r:Int):Calls Tryz.prog 17 #[.pointer (some ⟨d,0,none⟩),.int .i64 r] w fun e w'=>e = .returned (.int .i64 (if r < 0∨(H.length:Int)≤r then -1 else H.getD r.toNat 0))∧w = w':=by
 have k1:=h.box.cell (i:=1) rfl
 by_cases hb:r < 0∨(H.length:Int)≤r
 ·rw [if_pos hb]
  obtain ⟨n,hn⟩:∃ n,H.length = n:=⟨_,rfl⟩
  rw [hn] at k1 hb
  clear h hn
  by_cases h0:r < 0
  ·clear hb
   go_enter Tryz.func17,Tryz.ntmps17
   go_wp2_with fail
   go_ret
   exact ⟨rfl,rfl⟩
  ·have h1:(n:Int)≤r:=by omega
   clear hb
   go_enter Tryz.func17,Tryz.ntmps17
   go_wp2_with fail
   go_ret
   exact ⟨rfl,rfl⟩
 ·rw [if_neg hb]
  obtain ⟨k,rfl⟩:∃ k:Nat,r = k:=⟨r.toNat,by omega⟩
  rw [Int.toNat_natCast]
  have hk:k < H.length:=by omega
  obtain ⟨gH,e,hc⟩:=h.own hk
  rw [e] at k1
  obtain ⟨n,hn⟩:∃ n,H.length = n:=⟨_,rfl⟩
  rw [hn] at k1 hk
  generalize H.getD k 0 = v at *
  have h0:¬ (k:Int) < 0:=by omega
  have h1:¬ (n:Int)≤(k:Int):=by omega
  have h2:(k:Int) < (n:Int):=by omega
  have hld:=Lib.hid (run_i64D hc)
  clear h hn hb e hc
  go_enter Tryz.func17,Tryz.ntmps17
  go_wp2_with (first | (refine wpList_v rfl (.pointer (some ((⟨gH,0,none⟩:Addr).add k))) (run_ixIn (k:=k) rfl rfl rfl hk) ?_) | (refine wpList_load_v rfl 3 _ rfl ((⟨gH,0,none⟩:Addr).add k) rfl _ hld.out ?_))
  go_ret
  exact ⟨rfl,rfl⟩
def dtK (L:List Pc) (t:List Rq):Nat→Int
 | 0=>0
 | k + 1=>dtK L t k + totP (L.getD k pc0).fl (L.getD k pc0).rows t
theorem dtK_bd (hP:PcsAt B w t L):∀ k,k≤L.length→0≤dtK L t k∧dtK L t k≤4194304 * (k:Int)
 | 0,_=>by simp [dtK]
 | k + 1,h=>by
  have h1:=dtK_bd hP k (by omega)
  have hg:=(hP.get (by omega:k < L.length)).2.1
  have h2:=totK_bd hg (L.getD k pc0).fl.length (Nat.le_refl _)
  have h3:=hg.many.2
  unfold dtK totP
  omega
theorem run_cellPlD {p:Addr} {v:Option Addr} (h:w.cell? p = some (.pointer v)):(loadVar 42 p).run Tryz.prog w = .ok (.pointer v) w:=by go_simp
theorem dtotal_calls (h:DlIn w d L H gP cP qH cH) (hP:PcsAt B w t L):Calls Tryz.prog 19 #[.pointer (some ⟨d,0,none⟩)] w fun e w'=>e = .returned (.int .i64 (dtK L t L.length))∧Below w.heap.size w w':=by
 have k0:=h.box.cell (i:=0) rfl
 have hn8:=h.many.1
 have hbd:=Lib.hid (fun k (hk:k≤L.length)=>dtK_bd hP k hk)
 have hpt:=Lib.hid (fun i (hi:i < L.length) wx (hb:Below w.heap.size w wx)=>run_cellPlD ((h.below hb).ptr hi))
 have htt:=Lib.hid (fun i (hi:i < L.length) wx (hb:Below w.heap.size w wx)=>(((hP.below hb).get hi).pst hP.tl).total)
 obtain ⟨tot,ht0,htS⟩:∃ tot:Nat→Int,tot 0 = 0∧(∀ k,tot (k + 1) = tot k + totP (L.getD k pc0).fl (L.getD k pc0).rows t∧tot k = dtK L t k):=⟨dtK L t,rfl,fun _=>⟨rfl,rfl⟩⟩
 rw [← (htS L.length).2]
 obtain ⟨n,hn⟩:∃ n,L.length = n:=⟨_,rfl⟩
 rw [hn] at k0 hn8 hbd hpt htt ⊢
 replace htS:=Lib.hid htS
 replace ht0:=Lib.hid ht0
 clear h hP hn
 go_enter Tryz.func19,Tryz.ntmps19
 go_wp2_with fail
 go_loopw [2,12] (fun s2 s12 wx=>∃ k:Nat,k≤n∧s12 = .int .i64 k∧s2 = .int .i64 (tot k)∧Below w.heap.size w wx) (fun _ s12 _=>n - (intOf s12).toNat)
 case atStart=>exact ⟨0,Nat.zero_le _,rfl,by rw [ht0.out],Below.refl _ _⟩
 case round=>
  obtain ⟨i,hi,rfl,rfl,hb⟩:=hrel
  by_cases hlt:i < n
  ·have hltI:(i:Int) < (n:Int):=by omega
   have hi0:(0:Int)≤(i:Int):=by omega
   have s1:IntKind.i64.wrap ((i:Int) + 1) = (i:Int) + 1:=IntWalk.i64_in _ (by omega)
   have hl:=Lib.hid (hpt.out i hlt wr hb)
   have htc:=Lib.hid (htt.out i hlt wr hb)
   obtain ⟨f1,f2⟩:=htS.out i
   have g1:=hbd.out i (by omega)
   have g2:=hbd.out (i + 1) (by omega)
   rw [← f2] at g1
   rw [← (htS.out (i + 1)).2,f1] at g2
   generalize totP (L.getD i pc0).fl (L.getD i pc0).rows t = u at *
   generalize (L.getD i pc0).b = bi at *
   have s2:IntKind.i64.wrap (tot i + u) = tot i + u:=IntWalk.i64_in _ (by omega)
   have F1:=Lib.hid f1
   replace hb:=Lib.hid hb
   clear f1 f2 g1 g2
   go_wp2_with (first | (refine wpList_v rfl (.pointer (some ((⟨gP,0,none⟩:Addr).add i))) (run_ixPl (k:=i) rfl rfl rfl hlt) ?_) | (refine wpList_load_v rfl 42 _ rfl ((⟨gP,0,none⟩:Addr).add i) rfl _ hl.out ?_))
   refine htc.out.mono ?_
   rintro e w2 ⟨rfl,hb2⟩
   replace hb:=Lib.hid (hb.out.trans (hb2.mono hb.out.size))
   clear hb2 hl htc
   go_wp2_with fail
   go_roundw
   case rel=>exact ⟨i + 1,by omega,by simp,by rw [F1.out],hb.out⟩
   case measure=>simp [intOf]; omega
  ·obtain rfl:i = n:=by omega
   replace hb:=Lib.hid hb
   go_wp2_with fail
   go_ret
   exact ⟨rfl,hb.out⟩
theorem inV_allD (l:List Int):∀ z ∈ l.map inV,∀ u ∈ z,u.oneCell' = true:=by
 intro z hz
 obtain ⟨s,_,rfl⟩:=List.mem_map.1 hz
 simp [inV,Value.oneCell']
theorem in_elD:ElT Tryz.prog 35 3 1 8:=⟨Tryz.underlying35,by kernel_rfl,by kernel_rfl,by kernel_rfl,by omega,by omega⟩
theorem rsl_inZ (w:World):(Instr.buildSlice 35 0 #[]).run Tryz.prog w = .ok (.slice (some ⟨w.heap.size,0,none⟩) 0 0) (w.alloc (.cells #[] 3)):=by kernel_rfl
def hasB (p:Pc) (r:Int):Bool:=decide (0≤whereP p.rows r)
theorem others1_calls (h:DlIn w d L H gP cP qH cH) (hP:PcsAt B w t L) (gC gD gR:Nat) (c req:Int) (k:Nat) (hk:k < L.length) (hq:wf64 req) (hC:Blk w gC #[.int .i64 c] 3) (hD:Blk w gD #[.pointer (some ⟨d,0,none⟩)] 31) (hR:Blk w gR #[.int .i64 req] 3):
  Calls Tryz.prog 55 #[.int .i64 (k:Int),.pointer (some ⟨gC,0,none⟩),.pointer (some ⟨gD,0,none⟩),.pointer (some ⟨gR,0,none⟩)] w fun e w'=>e = .returned (.bool (((k:Int) != c) && hasB (L.getD k pc0) req))∧Below w.heap.size w w':=by
 have hmz:=fun z:Later (fun _=>False) w=>z.mod.below (Nat.le_refl _) (fun _ h=>h.elim)
 have hc1:=Lib.hid (fun z:Later (fun _=>False) w=>run_i64D ((hC.mod z.mod (fun h=>h)).cell (i:=0) (v:=.int .i64 c) rfl))
 have hc2:=Lib.hid (fun z:Later (fun _=>False) w=>run_cellDl ((hD.mod z.mod (fun h=>h)).cell (i:=0) (v:=.pointer (some ⟨d,0,none⟩)) rfl))
 have hc3:=Lib.hid (fun z:Later (fun _=>False) w=>run_i64D ((hR.mod z.mod (fun h=>h)).cell (i:=0) (v:=.int .i64 req) rfl))
 have hc4:=Lib.hid (fun z:Later (fun _=>False) w=>run_cellPs ((h.below (hmz z)).box.cell (i:=0) rfl))
 have hc5:=Lib.hid (fun z:Later (fun _=>False) w=>run_cellPl ((h.below (hmz z)).ptr hk))
 have hhas:=Lib.hid (fun z:Later (fun _=>False) w=>(by
  refine ((((hP.below (hmz z)).get hk).pst hP.tl).has req hq).mono ?_
  rintro e w' ⟨e1,rfl⟩
  exact ⟨e1,Below.refl _ _⟩:Calls Tryz.prog 22 #[.pointer (some ⟨(L.getD k pc0).b,0,none⟩),.int .i64 req] z.val fun e w'=>e = .returned (.bool (hasB (L.getD k pc0) req))∧Below z.val.heap.size z.val w'))
 replace hmz:=Lib.hid hmz
 obtain ⟨n,hn⟩:∃ n,L.length = n:=⟨_,rfl⟩
 rw [hn] at hk hc4
 generalize hasB (L.getD k pc0) req = hs at *
 generalize (L.getD k pc0).b = bk at *
 clear h hP hn hC hD hR
 by_cases hkc:(k:Int) = c
 ·have e1:((k:Int) != c) = false:=by rw [hkc]; simp
  rw [e1,Bool.false_and]
  replace e1:=Lib.hid e1
  go_enter Tryz.func55,Tryz.ntmps55
  go_upto_region 1 with fail
  refine wp_region_later (w0:=w) (S:=fun _=>False) (Mod.refl _ _) (by kernel_rfl) (by kernel_rfl) ?_
  go_big_quiet_step (fail)
  refine wpQuiet_v rfl (.int .i64 c) (by rintro _ ⟨z,rfl⟩; exact run_load_v rfl rfl (hc1.out z)) ?_
  simp only [Act.put,List.setIfInBounds_toArray,List.set_cons_succ,List.set_cons_zero]
  refine wpQuiet_v rfl (.bool false) (by rintro _ ⟨z,rfl⟩; exact run_neqL e1.out rfl rfl rfl) ?_
  simp only [Act.put,List.setIfInBounds_toArray,List.set_cons_succ,List.set_cons_zero]
  repeat (go_big_quiet_step (fail))
  refine wpQuiet_nil ?_
  rintro _ ⟨z,rfl⟩
  have hb:=hmz.out z
  generalize z.val = w2 at *
  clear hc1 hc2 hc3 hc4 hc5 hhas hmz
  go_wp2_with fail
  go_ret
  exact ⟨rfl,hb⟩
 ·have e1:((k:Int) != c) = true:=by simpa using hkc
  rw [e1,Bool.true_and]
  replace e1:=Lib.hid e1
  go_enter Tryz.func55,Tryz.ntmps55
  go_upto_region 1 with fail
  refine wp_region_later (w0:=w) (S:=fun _=>False) (Mod.refl _ _) (by kernel_rfl) (by kernel_rfl) ?_
  go_big_quiet_step (fail)
  refine wpQuiet_v rfl (.int .i64 c) (by rintro _ ⟨z,rfl⟩; exact run_load_v rfl rfl (hc1.out z)) ?_
  simp only [Act.put,List.setIfInBounds_toArray,List.set_cons_succ,List.set_cons_zero]
  refine wpQuiet_v rfl (.bool true) (by rintro _ ⟨z,rfl⟩; exact run_neqL e1.out rfl rfl rfl) ?_
  simp only [Act.put,List.setIfInBounds_toArray,List.set_cons_succ,List.set_cons_zero]
  go_big_quiet_step (fail)
  refine wpQuiet_v rfl (.pointer (some ⟨d,0,none⟩)) (by rintro _ ⟨z,rfl⟩; exact run_load_v rfl rfl (hc2.out z)) ?_
  simp only [Act.put,List.setIfInBounds_toArray,List.set_cons_succ,List.set_cons_zero]
  go_big_quiet_step (fail)
  go_big_quiet_step (fail)
  refine wpQuiet_v rfl (.slice (some ⟨gP,0,none⟩) n cP) (by rintro _ ⟨z,rfl⟩; exact run_load_v rfl rfl (hc4.out z)) ?_
  simp only [Act.put,List.setIfInBounds_toArray,List.set_cons_succ,List.set_cons_zero]
  go_big_quiet_step (fail)
  refine wpQuiet_v rfl (.pointer (some ((⟨gP,0,none⟩:Addr).add k))) (by rintro _ ⟨z,rfl⟩; exact run_ixPl (k:=k) rfl rfl rfl hk) ?_
  simp only [Act.put,List.setIfInBounds_toArray,List.set_cons_succ,List.set_cons_zero]
  refine wpQuiet_v rfl (.pointer (some ⟨bk,0,none⟩)) (by rintro _ ⟨z,rfl⟩; exact run_load_v rfl rfl (hc5.out z)) ?_
  simp only [Act.put,List.setIfInBounds_toArray,List.set_cons_succ,List.set_cons_zero]
  refine wpQuiet_v rfl (.int .i64 req) (by rintro _ ⟨z,rfl⟩; exact run_load_v rfl rfl (hc3.out z)) ?_
  simp only [Act.put,List.setIfInBounds_toArray,List.set_cons_succ,List.set_cons_zero]
  go_big_quiet_step (((go_at_call 22; with_reducible exact Calls.later (hhas.out _))))
  repeat (go_big_quiet_step (fail))
  refine wpQuiet_nil ?_
  rintro _ ⟨z,rfl⟩
  have hb:=hmz.out z
  generalize z.val = w2 at *
  clear hc1 hc2 hc3 hc4 hc5 hhas hmz
  go_wp2_with fail
  go_ret
  exact ⟨rfl,hb⟩
def othB (L:List Pc) (req c:Int):Bool:=(List.range L.length).any fun k=>((k:Int) != c) && hasB (L.getD k pc0) req
theorem dothers_calls (h:DlIn w d L H gP cP qH cH) (hP:PcsAt B w t L) (req c:Int) (hq:wf64 req):
  Calls Tryz.prog 34 #[.pointer (some ⟨d,0,none⟩),.int .i64 req,.int .i64 c] w fun e w'=>e = .returned (.bool (othB L req c))∧Below w.heap.size w w':=by
 have hmf:∀ (fn:Fn) (first cap:Array Value) (w:World),(Instr.makeFunc fn first cap).run Tryz.prog w = .ok (.func fn first cap) w:=fun _ _ _ _=>rfl
 have hn8:=h.many.1
 have hany:=Lib.hid (fun wx (hb:Below w.heap.size w wx) (hC:Blk wx (w.heap.size + 2) #[.int .i64 c] 3) (hD:Blk wx w.heap.size #[.pointer (some ⟨d,0,none⟩)] 31) (hR:Blk wx (w.heap.size + 1) #[.int .i64 req] 3)=>
  (dany_calls d L.length cP (some ⟨gP,0,none⟩) 55 #[.pointer (some ⟨w.heap.size + 2,0,none⟩),.pointer (some ⟨w.heap.size,0,none⟩),.pointer (some ⟨w.heap.size + 1,0,none⟩)] (fun k=>((k:Int) != c) && hasB (L.getD k pc0) req) wx ((h.below hb).box.cell (i:=0) rfl) (by omega) (fun _ _=>by go_simp)
    (fun k hk wy hy=>others1_calls ((h.below hb).below hy) ((hP.below hb).below hy) (w.heap.size + 2) w.heap.size (w.heap.size + 1) c req k hk hq (hC.mod ((Mod.refl (fun _=>False) _).after hy) (fun h=>h)) (hD.mod ((Mod.refl (fun _=>False) _).after hy) (fun h=>h)) (hR.mod ((Mod.refl (fun _=>False) _).after hy) (fun h=>h)))))
 change Hid (∀ wx,Below w.heap.size w wx→Blk wx (w.heap.size + 2) #[.int .i64 c] 3→Blk wx w.heap.size #[.pointer (some ⟨d,0,none⟩)] 31→Blk wx (w.heap.size + 1) #[.int .i64 req] 3→
  Calls Tryz.prog 29 #[.pointer (some ⟨d,0,none⟩),.func (.func 55) #[] #[.pointer (some ⟨w.heap.size + 2,0,none⟩),.pointer (some ⟨w.heap.size,0,none⟩),.pointer (some ⟨w.heap.size + 1,0,none⟩)]] wx fun e w'=>e = .returned (.bool (othB L req c))∧Below wx.heap.size wx w') at hany
 generalize othB L req c = RS at *
 clear h hP
 go_enter Tryz.func34,Tryz.ntmps34
 go_upto_region 1 with fail
 refine wp_world' (fun wx=>Blk wx w.heap.size #[.pointer (some ⟨d,0,none⟩)] 31∧Blk wx (w.heap.size + 1) #[.int .i64 req] 3∧Blk wx (w.heap.size + 2) #[.int .i64 c] 3∧Below w.heap.size w wx)
  ⟨((Blk.new _ _ _).alloc _).alloc _,(blk_newAtC (by simp) _ _).alloc _,blk_newAtC (by simp) _ _,((new_below _ _).alloc (by simp) _).alloc (by simp; omega) _⟩ ?_
 rintro w1 ⟨hD,hR,hC,hb⟩
 have ha:=Lib.hid (hany.out w1 hb hC hD hR)
 have hld:=Lib.hid (run_cellDl (hD.cell (i:=0) (v:=.pointer (some ⟨d,0,none⟩)) rfl))
 replace hb:=Lib.hid hb
 clear hD hR hC hany
 go_wp2_with (refine wpList_load_v rfl 31 _ rfl ⟨w.heap.size,0,none⟩ rfl _ hld.out ?_)
 refine ha.out.mono ?_
 rintro e w2 ⟨rfl,hb2⟩
 replace hb:=Lib.hid (hb.out.trans (hb2.mono hb.out.size))
 clear ha hld hb2
 go_wp2_with fail
 go_ret
 exact ⟨rfl,hb.out⟩
def rightB (L:List Pc) (H:List Int) (k:Nat):Bool:=(List.range k).all fun r=>hasB (L.getD (H.getD r 0).toNat pc0) r && !othB L r (H.getD r 0)
theorem rightB_succ (L:List Pc) (H:List Int) (k:Nat):rightB L H (k + 1) = (rightB L H k && (hasB (L.getD (H.getD k 0).toNat pc0) k && !othB L k (H.getD k 0))):=by
 unfold rightB
 rw [List.range_succ,List.all_append]
 simp
theorem rightB_no {L:List Pc} {H:List Int} {k:Nat} (hk:k < H.length) (h:(hasB (L.getD (H.getD k 0).toNat pc0) k && !othB L k (H.getD k 0)) = false):rightB L H H.length = false:=by
 unfold rightB
 rw [List.all_eq_false]
 exact ⟨k,List.mem_range.2 hk,by rw [h]; simp⟩
theorem dright_calls (h:DlIn w d L H gP cP qH cH) (hP:PcsAt B w t L) (hv:∀ r,r < H.length→0≤H.getD r 0∧H.getD r 0 < (L.length:Int)):
  Calls Tryz.prog 13 #[.pointer (some ⟨d,0,none⟩)] w fun e w'=>e = .returned (.bool (rightB L H H.length))∧Below w.heap.size w w':=by
 have hk01:=Lib.hid (fun wx (hb:Below w.heap.size w wx)=>(⟨(h.below hb).box.cell (i:=0) rfl,(h.below hb).box.cell (i:=1) rfl⟩:_∧_))
 have hH:=h.many.2
 have hown:=Lib.hid (fun r (hr:r < H.length) wx (hb:Below w.heap.size w wx)=>(h.below hb).own hr)
 have hpt:=Lib.hid (fun i (hi:i < L.length) wx (hb:Below w.heap.size w wx)=>run_cellPl ((h.below hb).ptr hi))
 have hhas:=Lib.hid (fun i (hi:i < L.length) (r:Nat) (hr:r < 64) wx (hb:Below w.heap.size w wx)=>(show Calls Tryz.prog 22 #[.pointer (some ⟨(L.getD i pc0).b,0,none⟩),.int .i64 (r:Int)] wx fun e w'=>e = .returned (.bool (hasB (L.getD i pc0) r))∧wx = w' from
  (((hP.below hb).get hi).pst hP.tl).has (r:Int) (by unfold wf64; omega)))
 have hoth:=Lib.hid (fun (r:Nat) (hr:r < 64) (c:Int) wx (hb:Below w.heap.size w wx)=>dothers_calls (h.below hb) (hP.below hb) (r:Int) c (by unfold wf64; omega))
 have hrs:=Lib.hid (rightB_succ L H)
 have hrn:=Lib.hid (fun k (hk:k < H.length) hf=>rightB_no (L:=L) (H:=H) (k:=k) hk hf)
 have hr0:rightB L H 0 = true:=rfl
 generalize hrb:rightB L H = rb at *
 replace hv:=Lib.hid hv
 replace hr0:=Lib.hid hr0
 obtain ⟨n,hn⟩:∃ n,L.length = n:=⟨_,rfl⟩
 obtain ⟨m,hm⟩:∃ m,H.length = m:=⟨_,rfl⟩
 rw [hm] at hk01 hH hown hrn hv ⊢
 rw [hn] at hk01 hpt hhas hv
 obtain ⟨kk0,kk1⟩:=hk01.out w (Below.refl _ _)
 clear h hP hn hm hrb
 go_enter Tryz.func13,Tryz.ntmps13
 go_wp2_with fail
 clear kk0 kk1
 go_loopw [12] (fun s12 wx=>∃ k:Nat,k≤m∧s12 = .int .i64 k∧rb k = true∧Below w.heap.size w wx) (fun s12 _=>m - (intOf s12).toNat)
 case atStart=>exact ⟨0,Nat.zero_le _,rfl,hr0.out,Below.refl _ _⟩
 case round=>
  obtain ⟨i,hi,rfl,hrt,hb⟩:=hrel
  by_cases hlt:i < m
  ·have hltI:(i:Int) < (m:Int):=by omega
   have hi0:(0:Int)≤(i:Int):=by omega
   have s1:IntKind.i64.wrap ((i:Int) + 1) = (i:Int) + 1:=IntWalk.i64_in _ (by omega)
   obtain ⟨gH,rfl,hc⟩:=hown.out i hlt wr hb
   have hvi:=hv.out i hlt
   have hri:=hrs.out i
   have hni:=hrn.out i hlt
   rw [hrt,Bool.true_and] at hri
   obtain ⟨c,hcc⟩:∃ c:Nat,H.getD i 0 = c:=⟨(H.getD i 0).toNat,by omega⟩
   rw [hcc] at hc hvi hri hni
   rw [Int.toNat_natCast] at hri hni
   have hcn:c < n:=by omega
   have hl1:=Lib.hid (run_i64D hc)
   have hl2:=Lib.hid (hpt.out c hcn wr hb)
   have hh:=Lib.hid (hhas.out c hcn i (by omega) wr hb)
   have ho:=Lib.hid (hoth.out i (by omega) (c:Int) wr hb)
   obtain ⟨kk0,kk1⟩:=hk01.out wr hb
   generalize hasB (L.getD c pc0) i = hs at *
   generalize othB L i c = os at *
   generalize (L.getD c pc0).b = bc at *
   replace hri:=Lib.hid hri
   replace hni:=Lib.hid hni
   replace hb:=Lib.hid hb
   clear hc hvi hcc hrt
   go_wp2_with (first | (refine wpList_v rfl (.pointer (some ((⟨gH,0,none⟩:Addr).add i))) (run_ixIn (k:=i) rfl rfl rfl hlt) ?_) | (refine wpList_load_v rfl 3 _ rfl ((⟨gH,0,none⟩:Addr).add i) rfl _ hl1.out ?_) |
    (refine wpList_v rfl (.pointer (some ((⟨gP,0,none⟩:Addr).add c))) (run_ixPl (k:=c) rfl rfl rfl hcn) ?_) | (refine wpList_load_v rfl 42 _ rfl ((⟨gP,0,none⟩:Addr).add c) rfl _ hl2.out ?_))
   refine hh.out.mono ?_
   rintro e w2 ⟨rfl,rfl⟩
   clear hh
   cases hs with
   | false=>
    have hz:=hni.out rfl
    clear hni hri ho
    go_wp2_with fail
    go_ret
    rw [hz]
    exact ⟨rfl,hb.out⟩
   | true=>
    go_wp2_with fail
    refine ho.out.mono ?_
    rintro e w3 ⟨rfl,hb2⟩
    replace hb:=Lib.hid (hb.out.trans (hb2.mono hb.out.size))
    clear ho hb2 kk0 kk1 hl1 hl2
    cases os with
    | true=>
     have hz:=hni.out rfl
     clear hni hri
     go_wp2_with fail
     go_ret
     rw [hz]
     exact ⟨rfl,hb.out⟩
    | false=>
     have hy:=hri.out
     clear hni hri
     go_wp2_with fail
     go_roundw
     case rel=>exact ⟨i + 1,by omega,by simp,by rw [hy]; rfl,hb.out⟩
     case measure=>simp [intOf]; omega
  ·obtain rfl:i = m:=by omega
   replace hb:=Lib.hid hb
   go_wp2_with fail
   go_ret
   rw [hrt]
   exact ⟨rfl,hb.out⟩
end
end
end
end Go.Proofs.YtkaoflndbcfodaaGreat
