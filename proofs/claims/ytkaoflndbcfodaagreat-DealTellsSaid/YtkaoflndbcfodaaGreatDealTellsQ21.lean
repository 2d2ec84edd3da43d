/-
  The row 'DealTells': a pack of the texts Sp So Ky Ph Ps, pruned to what the row uses.
-/
import Derived.Test.YtkaoflndbcfodaaGreatDealTellsQ20
import Derived.Shelf.SortM.Plain
import Derived.Shelf.SortM.SortNone
import Derived.Sort.OwnSortedInts
import Derived.Shelf.SlIterI.Sorted
import Derived.Shelf.SlIterI.Keys
import Derived.Shelf.SlMaps.Clone
namespace Go.Proofs.YtkaoflndbcfodaaGreat
set_option maxHeartbeats 8000000
set_option maxRecDepth 100000
section
section
open Go.RowKit
theorem run_neqV (w:World) (a b c d:Int):(binOp .neq 125 (.agg #[.int .i64 a,.int .i64 b]) (.agg #[.int .i64 c,.int .i64 d])).run Tryz.prog w = .ok (.bool (((a,b):Int × Int) != (c,d))) w:=by
 by_cases h1:a = c <;> by_cases h2:b = d <;> go_simp <;> simp_all [bne,BEq.beq]
theorem run_neqSt {ρ:Operand→Value} {o:Oper} {w:World} {x y:Operand} {s u:Int × Int} (ho:o.op = .binOp .neq 125 x y 125) (hx:ρ x = .agg #[.int .i64 s.1,.int .i64 s.2]) (hy:ρ y = .agg #[.int .i64 u.1,.int .i64 u.2]):
  (execOp ρ o).run Tryz.prog w = .ok (.value (.bool (s != u))) w:=by
 unfold execOp
 simp only [ho,hx,hy,Sem.run_bind,run_neqV,Sem.run_pure]
 go_simp
theorem run_notS {ρ:Operand→Value} {o:Oper} {w:World} {x:Operand} {b:Bool} (ho:o.op = .unOp .not 4 x) (hx:ρ x = .bool b):(execOp ρ o).run Tryz.prog w = .ok (.value (.bool (!b))) w:=by
 unfold execOp
 simp only [ho,hx]
 go_simp
theorem run_ixRs {ρ:Operand→Value} {o:Oper} {w:World} {x y:Operand} {a:Addr} {n c k:Nat} (ho:o.op = .indexAddr 106 x y) (hx:ρ x = .slice (some a) n c) (hy:ρ y = .int .i64 k) (hk:k < n):(execOp ρ o).run Tryz.prog w = .ok (.value (.pointer (some (a.add k)))) w:=by
 have h0:(0:Int)≤(k:Int):=by omega
 have h1:(k:Int) < (n:Int):=by omega
 have h2:((k:Int)).toNat = k:=by omega
 unfold execOp
 simp only [ho,hx,hy]
 go_simp
theorem run_callSm {ρ:Operand→Value} {o:Oper} {w:World} {x y:Operand} {a b:Value} (ho:o.op = .call { callee:=.value (.func 68),args:=#[x,y],argTypes:=#[82,82] }) (hx:ρ x = a) (hy:ρ y = b)
  (hf:ρ (.func 68) = .func (.func 68) #[] #[]:=by rfl):(execOp ρ o).run Tryz.prog w = .ok (.enter 68 #[a,b]) w:=by
 unfold execOp
 simp only [ho]
 go_simp
theorem rsame_calls (p q:Option Addr) (c d:Nat) (A B:List (Int × Int)) (w:World) (hA:Els w p 2 (A.map stV)) (hB:Els w q 2 (B.map stV)):
  Calls Tryz.prog 68 #[.slice p A.length c,.slice q B.length d] w fun e w'=>e = .returned (.bool (decide (A = B)))∧Below w.heap.size w w':=by
 have hbig:A.length≤140737488351232:=by simpa using hA.big
 have hbig2:B.length≤140737488351232:=by simpa using hB.big
 replace hA:=Lib.hid hA
 replace hB:=Lib.hid hB
 by_cases hl:A.length = B.length
 ·have hX:Hid (decide (A = B) = true↔∀ k (h1:k < A.length) (h2:k < B.length),A[k] = B[k]):=Lib.hid ⟨fun h k h1 h2=>by have e:=of_decide_eq_true h; subst e; rfl,fun h=>decide_eq_true (List.ext_getElem hl (fun k h1 h2=>h k h1 h2))⟩
  generalize decide (A = B) = X at *
  go_enter Tryz.func68,Tryz.ntmps68
  rw [← hl]
  replace hl:=Lib.hid hl
  go_wp2_with fail
  go_loopw [5] (fun s5 wx=>∃ k:Nat,k≤A.length∧s5 = .int .i64 k∧Hid (∀ j (h1:j < A.length) (h2:j < B.length),j < k→A[j] = B[j])∧∃ m,wx = w.drewN m) (fun s5 _=>A.length - (intOf s5).toNat)
  case atStart=>exact ⟨0,Nat.zero_le _,rfl,Lib.hid (fun j _ _ h=>by omega),0,rfl⟩
  case round=>
   obtain ⟨k,hk,rfl,hR,m,rfl⟩:=hrel
   by_cases hlt:k < A.length
   ·have hltI:(k:Int) < (A.length:Int):=by omega
    have hk0:(0:Int)≤(k:Int):=by omega
    have s1:IntKind.i64.wrap ((k:Int) + 1) = (k:Int) + 1:=IntWalk.i64_in _ (by omega)
    have hlb:k < B.length:=by rw [← hl.out]; exact hlt
    obtain ⟨a,ha⟩:=hA.out.some_of (k:=k) (by simpa using hlt)
    subst ha
    obtain ⟨b,hb⟩:=hB.out.some_of (k:=k) (by simpa using hlb)
    subst hb
    have ca:∀ n,(loadVar 125 (a.add (k * 2))).run Tryz.prog (w.drewN n) = .ok (.agg #[.int .i64 A[k].1,.int .i64 A[k].2]) (w.drewN n):=fun n=>by
     have:=(hA.out.below (below_drewN (Below.refl _ _) n)).load (P:=Tryz.prog) (a:=a) rfl (k:=k) (by simpa using hlt) (ty:=125) Tryz.underlying125 rfl (by kernel_rfl)
     rw [List.getElem_map] at this
     exact this
    have cb:∀ n,(loadVar 125 (b.add (k * 2))).run Tryz.prog (w.drewN n) = .ok (.agg #[.int .i64 B[k].1,.int .i64 B[k].2]) (w.drewN n):=fun n=>by
     have:=(hB.out.below (below_drewN (Below.refl _ _) n)).load (P:=Tryz.prog) (a:=b) rfl (k:=k) (by simpa using hlb) (ty:=125) Tryz.underlying125 rfl (by kernel_rfl)
     rw [List.getElem_map] at this
     exact this
    have hno:Hid (A[k] ≠ B[k]→X = false):=Lib.hid (fun h=>by
     cases X with
     | false=>rfl
     | true=>exact absurd (hX.out.1 rfl k hlt hlb) h)
    have hR':Hid (A[k] = B[k]→∀ j (h1:j < A.length) (h2:j < B.length),j < k + 1→A[j] = B[j]):=Lib.hid (fun h j h1 h2 hj=>by
     by_cases e:j = k
     ·subst e; exact h
     ·exact hR.out j h1 h2 (by omega))
    replace ca:=Lib.hid ca
    replace cb:=Lib.hid cb
    clear hR
    generalize A[k] = x at *
    generalize B[k] = y at *
    obtain ⟨g,hg⟩:∃ g,(x != y) = g:=⟨_,rfl⟩
    replace hg:=Lib.hid hg
    go_upto_region 6 with fail
    refine wp_region_quiet_lit (by kernel_rfl) (by kernel_rfl) ?_
    iterate 3 (go_big_quiet_step (fail))
    refine wpQuiet_v rfl (.agg #[.int .i64 x.1,.int .i64 x.2]) (by rintro _ ⟨j,rfl⟩; rw [World.drewN_drewN]; exact run_load_v rfl rfl (ca.out _)) ?_
    simp only [Act.put,List.setIfInBounds_toArray,List.set_cons_succ,List.set_cons_zero]
    iterate 3 (go_big_quiet_step (fail))
    refine wpQuiet_v rfl (.agg #[.int .i64 y.1,.int .i64 y.2]) (by rintro _ ⟨j,rfl⟩; rw [World.drewN_drewN]; exact run_load_v rfl rfl (cb.out _)) ?_
    simp only [Act.put,List.setIfInBounds_toArray,List.set_cons_succ,List.set_cons_zero]
    refine wpQuiet_v rfl (.bool (x != y)) (by rintro _ ⟨j,rfl⟩; exact run_neqSt rfl rfl rfl) ?_
    simp only [Act.put,List.setIfInBounds_toArray,List.set_cons_succ,List.set_cons_zero]
    refine wpQuiet_nil ?_
    rintro _ ⟨j,rfl⟩
    rw [World.drewN_drewN,hg.out]
    cases g with
    | true=>
     obtain rfl:X = false:=hno.out (by simpa using hg.out)
     clear hno hR' hX ca cb
     go_wp2
     go_ret
     exact ⟨rfl,below_drewN (Below.refl _ _) _⟩
    | false=>
     have hR2:=Lib.hid (hR'.out (by simpa using hg.out))
     clear hno hR' ca cb
     go_wp2_with fail
     go_roundw
     case rel=>exact ⟨k + 1,by omega,by simp,hR2,_,rfl⟩
     case measure=>simp [intOf]; omega
   ·obtain rfl:X = true:=hX.out.2 (fun j h1 h2=>hR.out j h1 h2 (by omega))
    clear hX hR
    go_wp2
    go_ret
    exact ⟨rfl,below_drewN (Below.refl _ _) _⟩
 ·have hX:decide (A = B) = false:=decide_eq_false (fun e=>hl (by rw [e]))
  rw [hX]
  have n1:((A.length:Int) != (B.length:Int)) = true:=by simpa using (show ¬ (A.length:Int) = (B.length:Int) by omega)
  have n2:(A.length != B.length) = true:=by simpa using hl
  go_enter Tryz.func68,Tryz.ntmps68
  go_wp2
  go_ret
  exact ⟨rfl,Below.refl _ _⟩
theorem rows_ext {A B:List Rou2} (hl:A.length = B.length) (h:∀ k,k < A.length→A.getD k [] = B.getD k []):A = B:=
 List.ext_getElem hl fun k h1 h2=>by
  have:=h k h1
  rwa [List.getD_eq_getElem?_getD,List.getD_eq_getElem?_getD,List.getElem?_eq_getElem h1,List.getElem?_eq_getElem h2] at this
theorem rs_cell {w wx:World} {a:Addr} {rows:List Rou2} {qs:List (Option Addr × Nat)} (h:Els w (some a) 1 (rsV rows qs rows.length)) (hm:Mod (fun _=>False) w wx) {k:Nat} (hk:k < rows.length):wx.cell? (a.add k) = some (.slice (qs.getD k (none,0)).1 (rows.getD k []).length (qs.getD k (none,0)).2):=by
 have h1:=h.cells a rfl k [.slice (qs.getD k (none,0)).1 (rows.getD k []).length (qs.getD k (none,0)).2] 0 _ (by simp [rsV,hk]) rfl
 rw [Nat.mul_one,Nat.add_zero] at h1
 exact hm.cell_of (fun h=>h) h1
end
section
open Go.RowKit
theorem veR_lenP (F:List Ve):∀ x ∈ F.map veR,x.length = 5:=by
 intro x hx
 obtain ⟨s,_,rfl⟩:=List.mem_map.1 hx
 rfl
theorem ve_el:ElT Tryz.prog 60 59 5 40:=⟨Tryz.underlying60,by kernel_rfl,by kernel_rfl,by kernel_rfl,by omega,by omega⟩
theorem rsl_ve (v:Ve) (w:World):(Instr.buildSlice 60 1 #[(0,.agg (veR v).toArray)]).run Tryz.prog w = .ok (.slice (some ⟨w.heap.size,0,none⟩) 1 1) (w.alloc (.cells (veR v).toArray 59)):=by kernel_rfl
end
section
open Go.RowKit
theorem els_litP {w:World} {g n:Nat} {E:TypeId} {R:List (List Value)} (hB:Blk w g R.flatten.toArray E) (hl:∀ x ∈ R,x.length = n) (hb:R.length≤140737488351232):Els w (some ⟨g,0,none⟩) n R:=
 ⟨fun e=>(by cases e),hl,hb,fun a ha k x j v hk hj=>by
  cases ha
  rw [add0]
  exact hB.cell (by simpa using flat_at R k j x v hl hk hj)⟩
def prL (req:Int):Rou2:=[(req,0),(req,1)]
end
end
section
open Go.RowKit Go.Shelf Go.Sort
def soF:Nat→Nat
 | 5=>82
 | 7=>98
 | 8=>99
 | 10=>114
 | 11=>115
 | 12=>116
 | 13=>117
 | 14=>118
 | 15=>119
 | 16=>120
 | 17=>121
 | 18=>122
 | 19=>123
 | 20=>124
 | 30=>138
 | 31=>139
 | 32=>140
 | 33=>141
 | 34=>142
 | 35=>143
 | 40=>155
 | n=>n
def soT:Nat→Nat
 | 0=>0
 | 3=>3
 | 4=>4
 | 5=>5
 | 9=>9
 | 22=>35
 | 23=>35
 | 25=>3
 | 32=>112
 | 35=>204
 | 36=>205
 | 41=>95
 | 44=>211
 | 46=>67
 | 53=>222
 | 57=>226
 | 63=>235
 | 64=>215
 | n=>n
def soRen:Go.Shelf.Ren:=⟨soF,soT,fun n=>n⟩
theorem soLays:SlLaysM.n5 Tryz.prog soRen:={
 mixed:=by kernel_rfl,
 f5:=⟨Tryz.f82.name,by decide +kernel,by kernel_rfl⟩,
 f7:=⟨Tryz.f98.name,by decide +kernel,by kernel_rfl⟩,
 f8:=by kernel_rfl,
 f10:=⟨Tryz.f114.name,by decide +kernel,by kernel_rfl⟩,
 f11:=⟨Tryz.f115.name,by decide +kernel,by kernel_rfl⟩,
 f12:=⟨Tryz.f116.name,by decide +kernel,by kernel_rfl⟩,
 f13:=⟨Tryz.f117.name,by decide +kernel,by kernel_rfl⟩,
 f14:=⟨Tryz.f118.name,by decide +kernel,by kernel_rfl⟩,
 f15:=⟨Tryz.f119.name,by decide +kernel,by kernel_rfl⟩,
 f16:=⟨Tryz.f120.name,by decide +kernel,by kernel_rfl⟩,
 f17:=⟨Tryz.f121.name,by decide +kernel,by kernel_rfl⟩,
 f18:=⟨Tryz.f122.name,by decide +kernel,by kernel_rfl⟩,
 f19:=by kernel_rfl,
 f20:=by kernel_rfl,
 f30:=⟨Tryz.f138.name,by decide +kernel,by kernel_rfl⟩,
 f31:=by kernel_rfl,
 f32:=by kernel_rfl,
 f33:=⟨Tryz.f141.name,by decide +kernel,by kernel_rfl⟩,
 f34:=⟨Tryz.f142.name,by decide +kernel,by kernel_rfl⟩,
 f35:=⟨Tryz.f143.name,by decide +kernel,by kernel_rfl⟩,
 f40:=⟨Tryz.f155.name,by decide +kernel,by kernel_rfl⟩,
 t0:=by kernel_rfl,
 a0:=fun _=>by kernel_rfl,
 z0:=fun _=>by kernel_rfl,
 v0:=fun _=>by kernel_rfl,
 t3:=by kernel_rfl,
 a3:=fun _=>by kernel_rfl,
 z3:=fun _=>by kernel_rfl,
 v3:=fun _=>by kernel_rfl,
 t4:=by kernel_rfl,
 a4:=fun _=>by kernel_rfl,
 z4:=fun _=>by kernel_rfl,
 v4:=fun _=>by kernel_rfl,
 t5:=by kernel_rfl,
 a5:=fun _=>by kernel_rfl,
 z5:=fun _=>by kernel_rfl,
 v5:=fun _=>by kernel_rfl,
 t9:=by kernel_rfl,
 a9:=fun _=>by kernel_rfl,
 z9:=fun _=>by kernel_rfl,
 v9:=fun _=>by kernel_rfl,
 t22:=by kernel_rfl,
 a22:=fun _=>by kernel_rfl,
 z22:=fun _=>by kernel_rfl,
 v22:=fun _=>by kernel_rfl,
 t23:=by kernel_rfl,
 a23:=fun _=>by kernel_rfl,
 z23:=fun _=>by kernel_rfl,
 v23:=fun _=>by kernel_rfl,
 t25:=by kernel_rfl,
 a25:=fun _=>by kernel_rfl,
 z25:=fun _=>by kernel_rfl,
 v25:=fun _=>by kernel_rfl,
 t32:=by kernel_rfl,
 a32:=fun _=>by kernel_rfl,
 z32:=fun _=>by kernel_rfl,
 v32:=fun _=>by kernel_rfl,
 t35:=by kernel_rfl,
 a35:=fun _=>by kernel_rfl,
 z35:=fun _=>by kernel_rfl,
 v35:=fun _=>by kernel_rfl,
 t36:=by kernel_rfl,
 a36:=fun _=>by kernel_rfl,
 z36:=fun _=>by kernel_rfl,
 v36:=fun _=>by kernel_rfl,
 t41:=by kernel_rfl,
 a41:=fun _=>by kernel_rfl,
 z41:=fun _=>by kernel_rfl,
 v41:=fun _=>by kernel_rfl,
 t44:=by kernel_rfl,
 a44:=fun _=>by kernel_rfl,
 z44:=fun _=>by kernel_rfl,
 v44:=fun _=>by kernel_rfl,
 t46:=by kernel_rfl,
 a46:=fun _=>by kernel_rfl,
 z46:=fun _=>by kernel_rfl,
 v46:=fun _=>by kernel_rfl,
 t53:=by kernel_rfl,
 a53:=fun _=>by kernel_rfl,
 z53:=fun _=>by kernel_rfl,
 v53:=fun _=>by kernel_rfl,
 t57:=by kernel_rfl,
 a57:=fun _=>by kernel_rfl,
 z57:=fun _=>by kernel_rfl,
 v57:=fun _=>by kernel_rfl,
 t63:=by kernel_rfl,
 a63:=fun _=>by kernel_rfl,
 z63:=fun _=>by kernel_rfl,
 v63:=fun _=>by kernel_rfl,
 t64:=by kernel_rfl,
 a64:=fun _=>by kernel_rfl,
 z64:=fun _=>by kernel_rfl,
 v64:=fun _=>by kernel_rfl }
theorem inV_map (zs:List Int):(zs.map fun z=>[Value.int .i64 z]).flatten = zs.map (Value.int .i64):=by
 induction zs with
 | nil=>rfl
 | cons z zs ih=>simp [ih]
end
section
open Go.RowKit Go.Shelf Go.Sort
def kyF:Nat→Nat
 | 6=>53
 | 7=>54
 | 8=>81
 | 9=>82
 | 10=>83
 | 11=>97
 | n=>n
def kyT:Nat→Nat
 | 0=>0
 | 3=>3
 | 4=>4
 | 23=>86
 | 24=>35
 | 26=>3
 | 27=>120
 | 28=>121
 | 33=>69
 | n=>n
def kyRen:Go.Shelf.Ren:=⟨kyF,kyT,fun n=>n⟩
theorem ky6:SlLaysZI.n6 Tryz.prog kyRen:={
 mixed:=by kernel_rfl,
 f6:=⟨Tryz.f53.name,by decide +kernel,by kernel_rfl⟩,
 f8:=⟨Tryz.f81.name,by decide +kernel,by kernel_rfl⟩,
 f11:=⟨Tryz.f97.name,by decide +kernel,by kernel_rfl⟩,
 t0:=by kernel_rfl,
 a0:=fun _=>by kernel_rfl,
 z0:=fun _=>by kernel_rfl,
 v0:=fun _=>by kernel_rfl,
 t24:=by kernel_rfl,
 a24:=fun _=>by kernel_rfl,
 z24:=fun _=>by kernel_rfl,
 v24:=fun _=>by kernel_rfl,
 t26:=by kernel_rfl,
 a26:=fun _=>by kernel_rfl,
 z26:=fun _=>by kernel_rfl,
 v26:=fun _=>by kernel_rfl,
 t28:=by kernel_rfl,
 a28:=fun _=>by kernel_rfl,
 z28:=fun _=>by kernel_rfl,
 v28:=fun _=>by kernel_rfl,
 i26:=by kernel_rfl }
theorem ky7:SlLaysZI.n7 Tryz.prog kyRen:={
 mixed:=by kernel_rfl,
 f7:=⟨Tryz.f54.name,by decide +kernel,by kernel_rfl⟩,
 f10:=⟨Tryz.f83.name,by decide +kernel,by kernel_rfl⟩,
 t0:=by kernel_rfl,
 a0:=fun _=>by kernel_rfl,
 z0:=fun _=>by kernel_rfl,
 v0:=fun _=>by kernel_rfl,
 t4:=by kernel_rfl,
 a4:=fun _=>by kernel_rfl,
 z4:=fun _=>by kernel_rfl,
 v4:=fun _=>by kernel_rfl,
 t23:=by kernel_rfl,
 a23:=fun _=>by kernel_rfl,
 z23:=fun _=>by kernel_rfl,
 v23:=fun _=>by kernel_rfl,
 t26:=by kernel_rfl,
 a26:=fun _=>by kernel_rfl,
 z26:=fun _=>by kernel_rfl,
 v26:=fun _=>by kernel_rfl,
 t27:=by kernel_rfl,
 a27:=fun _=>by kernel_rfl,
 z27:=fun _=>by kernel_rfl,
 v27:=fun _=>by kernel_rfl,
 t28:=by kernel_rfl,
 a28:=fun _=>by kernel_rfl,
 z28:=fun _=>by kernel_rfl,
 v28:=fun _=>by kernel_rfl,
 t33:=by kernel_rfl,
 a33:=fun _=>by kernel_rfl,
 z33:=fun _=>by kernel_rfl,
 v33:=fun _=>by kernel_rfl }
theorem keys_of {w:World} {b n:Nat} {D:DataW Unit} {m:Int→Option Int} (h:w.ownsMap Tryz.prog 3 (plainElem Tryz.prog 3) b n D) (hv:∀ i:Int,Go.Maps.has D (.int .i64 i) = (m i).isSome) {ss:List Int} (hp:ss.Perm (intKeys D)):
  ss.Nodup∧∀ r,r ∈ ss↔(m r).isSome = true:=by
 obtain ⟨es,hD,hpw,_⟩:=h.entries (Go.Maps.int_keyed Tryz.underlying3)
 obtain ⟨es',hD',hko⟩:=h.keysOf
 obtain rfl:es = es':=by rw [hD] at hD'; simpa using hD'
 subst hD
 have hk:∀ p ∈ es,∃ x,p.1 = .int .i64 x:=fun p hp=>by
  obtain ⟨v,hv⟩:=hko p hp
  obtain ⟨x,_,hx,_⟩:=Maps.keyOf_i64 Tryz.underlying3 hv
  exact ⟨x,hx⟩
 have hnd:(intKeys (.map es)).Nodup:=by
  show (es.map fun p=>Go.intOf p.1).Nodup
  refine List.pairwise_map.2 (hpw.imp_of_mem fun {p q} hp' hq' hne e=>hne ?_)
  obtain ⟨a,ha⟩:=hk p hp'
  obtain ⟨b,hb⟩:=hk q hq'
  rw [ha,hb] at e ⊢
  exact congrArg _ e
 refine ⟨hp.nodup_iff.2 hnd,fun r=>?_⟩
 rw [hp.mem_iff,← hv r,Go.Maps.has_eq,List.any_eq_true]
 show r ∈ es.map (fun p=>Go.intOf p.1)↔_
 rw [List.mem_map]
 constructor
 ·rintro ⟨p,hp',rfl⟩
  obtain ⟨a,ha⟩:=hk p hp'
  exact ⟨p,hp',by rw [ha]; simp [Lit.sameKey,Go.intOf]⟩
 ·rintro ⟨p,hp',hs⟩
  obtain ⟨a,ha⟩:=hk p hp'
  rw [ha] at hs
  exact ⟨p,hp',by rw [ha]; simpa [Lit.sameKey,Go.intOf] using hs⟩
theorem kySorts (m:Nat):AnyZI.SortsIn Tryz.prog kyRen Fence.wide m:=
 ⟨fun blk off cap ss W hH hblk hsz=>callsIn_wide.2 (AnyM.slices_Sort_int soLays blk off cap ss W hH hblk hsz),
  fun p cap W=>callsIn_wide.2 (AnyM.slices_Sort_int_none soLays p cap W)⟩
theorem kyKeys (n:Nat) (mb:Option Nat) (W:World):CallsIn Fence.wide n Tryz.prog 54 #[.map mb] W fun e w'=>e = .returned (.func (.func 83) #[] #[.pointer (some ⟨W.heap.size,0,none⟩)])∧w' = W.alloc (.cells #[.map mb] 86):=
 AnyZI.keys_in ky7 Fence.wide n trivial rfl mb W
theorem kySorted {W:World} {b nn:Nat} {m:Int→Option Int} (h:MapV Tryz.prog 3 3 W b nn m) (hn:nn≤100000) {g:Nat} (hg:W.cell? ⟨g,0,none⟩ = some (.map (some b))):
  CallsIn Fence.wide 5 Tryz.prog 53 #[.func (.func 83) #[] #[.pointer (some ⟨g,0,none⟩)]] W fun e w'=>∃ (v:Value) (ss:List Int),e = .returned v∧(ss.Nodup∧∀ r,r ∈ ss↔(m r).isSome = true)∧
   w'.ownsRow W.heap.size 3 1 v ss.length ((ss.mergeSort (fun x y=>decide (x≤y))).map (Value.int .i64))∧Below W.heap.size W w':=by
 obtain ⟨D,h,hv⟩:=h
 have hsz:Go.Maps.size D≤nn:=by
  obtain ⟨es,clock,_,_,hs,rfl⟩:=h
  simpa [Go.Maps.size,DataW.length_sorted] using hs
 have hseq:SeqGives Fence.wide 2 Tryz.prog 83 #[.pointer (some ⟨g,0,none⟩)] encZ (fun ss=>ss.Perm (intKeys D)) (Go.Maps.size D) W:=
  AnyZI.keys_gives (ρ:=kyRen) { ky7 with } Fence.wide _ trivial rfl (by omega) g b nn D W (World.block_lt_of_cell? W _ hg) hg h
 have cS:=AnyZI.sorted_in ky6 Fence.wide 5 trivial trivial trivial trivial rfl (by omega) (kySorts _) (enters_of Tryz.func82 (by kernel_rfl) rfl) 83 #[.pointer (some ⟨g,0,none⟩)] trivial (enters_of Tryz.func83 (by kernel_rfl) rfl) _ _ (by unfold maxLen; omega) (by omega) _ hseq
 refine cS.mono ?_
 rintro e w' ⟨v,ss,rfl,hp,hO,_,hb⟩
 exact ⟨v,ss,rfl,keys_of h (fun i=>(hv i).2) hp,hO,hb⟩
end
section
open Go.RowKit
attribute [local go_sem] Oper.semAt_some
theorem allQ_mem {rows:List Rou2} {t:List Rq} {r:Int}:r ∈ allQ rows t↔(0≤r∧r < t.length)∧0≤whereP rows r:=by
 unfold allQ
 rw [List.mem_filter,List.mem_map]
 constructor
 ·rintro ⟨⟨i,hi,rfl⟩,h⟩
  have:=List.mem_range.1 hi
  exact ⟨by omega,of_decide_eq_true h⟩
 ·rintro ⟨⟨h0,h1⟩,h⟩
  exact ⟨⟨r.toNat,List.mem_range.2 (by omega),by omega⟩,decide_eq_true h⟩
theorem allQ_sorted (rows:List Rou2) (t:List Rq):(allQ rows t).Pairwise (· < ·):=by
 unfold allQ
 refine List.Pairwise.filter _ ?_
 refine List.pairwise_map.2 ?_
 exact List.pairwise_lt_range.imp (fun h=>by omega)
theorem allQ_len (rows:List Rou2) (t:List Rq):(allQ rows t).length≤t.length:=by
 unfold allQ
 have:=List.length_filter_le (fun r=>decide (0≤whereP rows r)) ((List.range t.length).map fun i:Nat=>(i:Int))
 simpa using this
theorem where_rg {fl:List Ve} {rows:List Rou2} {t:List Rq} (hP:PlnOk fl rows t) {r:Int} (h:0≤whereP rows r):0≤r∧r < t.length:=by
 obtain ⟨k,hk,e,s,hs,rfl⟩:=where_some h
 have hR:=hP.right k (by rw [← hP.len]; exact hk)
 have hs':s ∈ rows.getD k []:=by rw [List.getD_eq_getElem?_getD,List.getElem?_eq_getElem hk]; exact hs
 exact ⟨(rou_mem hR.2.2.2.1 hs').1,hR.2.2.2.2.1 s hs'⟩
theorem all_sort {fl:List Ve} {rows:List Rou2} {t:List Rq} (hP:PlnOk fl rows t) {ks:List Int} (hnd:ks.Nodup) (hm:∀ r,r ∈ ks↔(whM rows r).isSome = true):ks.length = (allQ rows t).length∧ks.mergeSort (fun x y=>decide (x≤y)) = allQ rows t:=by
 have hs:=allQ_sorted rows t
 have hnd2:(allQ rows t).Nodup:=hs.imp (fun h=>by omega)
 have hp:ks.Perm (allQ rows t):=(List.perm_ext_iff_of_nodup hnd hnd2).2 fun r=>by
  rw [hm,allQ_mem]
  by_cases h:0≤whereP rows r
  ·rw [whM_some h]
   simp only [Option.isSome_some,true_iff]
   exact ⟨where_rg hP h,h⟩
  ·rw [whM_none (by omega)]
   simp only [Option.isSome_none,Bool.false_eq_true,false_iff]
   exact fun x=>h x.2
 have tr:∀ a b c:Int,decide (a≤b) = true→decide (b≤c) = true→decide (a≤c) = true:=fun a b c h1 h2=>by simp only [decide_eq_true_eq] at *; omega
 have tot:∀ a b:Int,(decide (a≤b) || decide (b≤a)) = true:=fun a b=>by simp only [Bool.or_eq_true,decide_eq_true_eq]; omega
 refine ⟨hp.length_eq,List.Perm.eq_of_pairwise (le:=fun a b=>decide (a≤b) = true) (fun a b _ _ h1 h2=>?_) (List.pairwise_mergeSort tr tot ks) (hs.imp (fun h=>by simp only [decide_eq_true_eq]; omega)) ((List.mergeSort_perm ks _).trans hp)⟩
 simp only [decide_eq_true_eq] at h1 h2
 omega
def AqPost (w:World) (R:List Int) (e:Ending) (w':World):Prop:=
 (∃ q d,e = .returned (.slice q R.length d)∧R.length≤d∧Els w' q 1 (R.map inV)∧(R ≠ []→∃ g C,q = some ⟨g,0,none⟩∧w.heap.size≤g∧Blk w' g C 3))∧Below w.heap.size w w'
theorem pall_calls {w:World} {F:Nat→Prop} {b gT gM N:Nat} {fl:List Ve} {rows:List Rou2} {t:List Rq} (hP:PlnOk fl rows t) (ht:t.length≤1000) (h:PlanAt w F b gT gM N fl rows t) (hN:N≤100000):
  Calls Tryz.prog 32 #[.pointer (some ⟨b,0,none⟩)] w (AqPost w (allQ rows t)):=by
 have hso:=Lib.hid (fun ks hnd hm=>all_sort hP (ks:=ks) hnd hm)
 have hql:=allQ_len rows t
 obtain ⟨qT,dT,cT,qs,h⟩:=h
 have k2:=h.box.cell (i:=2) rfl
 generalize allQ rows t = Q at *
 have hcS:=Lib.hid (kySorted (W:=w.alloc (.cells #[.map (some gM)] 86)) (h.map.mod ((Mod.refl (fun _=>False) w).alloc _) (fun h=>h)) hN (g:=w.heap.size) (cellN w _ _).1)
 have hcK:=Lib.hid (kyKeys 5 (some gM) w)
 have hb1:=Lib.hid (new_below w (.cells #[.map (some gM)] 86))
 clear h hP
 refine (callsIn_wide (n:=6)).1 ?_
 refine callsIn_of_wp Tryz.func32 rfl trivial ?_ rfl
 simp only [Tryz.ntmps32,List.size_toArray,List.length_cons,List.length_nil,Nat.reduceAdd,Nat.reduceSub,Array.replicate_succ,Array.replicate_zero,List.push_toArray,List.append_toArray,List.nil_append,List.cons_append]
 have hfK:Fence.wide.fn 54:=trivial
 have hfS:Fence.wide.fn 53:=trivial
 gi_wp2_with (first | (gi_at_call 54; refine hcK.out.mono ?_; rintro e w' ⟨rfl,rfl⟩) | (gi_at_call 53; refine hcS.out.mono ?_; rintro e w3 ⟨v,ss,rfl,⟨hnd,hmm⟩,hO,hb3⟩))
 obtain ⟨hl,he⟩:=hso.out ss hnd hmm
 rw [he,hl] at hO
 have hb4:=hb1.out.trans (hb3.mono hb1.out.size)
 obtain ⟨q4,n4,d4,rfl⟩:=own_isS hO
 obtain ⟨h1,h2,h3,_⟩:=own_els (R:=Q.map inV) (fun x hx=>by obtain ⟨z,_,rfl⟩:=List.mem_map.1 hx; rfl) (by rw [List.length_map,show (Q.map inV).flatten = Q.map (Value.int .i64) from inV_map Q]; exact hO) (by rw [List.length_map]; omega)
 rw [List.length_map] at h2
 subst h2
 have hbs:=hb1.out.size
 have hown:Q ≠ []→∃ g C,q4 = some ⟨g,0,none⟩∧w.heap.size≤g∧Blk w3 g C 3:=fun h0=>by
  obtain ⟨g,C,e1,e2,e3,_⟩:=ownS_blk hO (by cases Q with | nil=>exact absurd rfl h0 | cons _ _=>simp)
  exact ⟨g,C,e1,Nat.le_trans hbs e3,e2⟩
 replace h1:=Lib.hid h1
 replace hb4:=Lib.hid hb4
 replace hown:=Lib.hid hown
 clear hO hb3 hl he hnd hmm hso hcS hcK hb1
 go_ret
 exact ⟨⟨q4,d4,rfl,h3,h1.out,hown.out⟩,hb4.out⟩
end
section
section
open Go.RowKit
theorem ds_same (x y:Int):dsP x y x y = 0:=by
 unfold dsP ap1
 split
 ·simp
 ·rfl
theorem right_nil {v:Ve} {t:List Rq} (hv:vehV v = 0) (ht:∀ q ∈ t,rqE q = 0):RightV v [] t:=by
 refine ⟨hv,ht,by simp,?_,fun s hs=>(by cases hs),fun k hk=>by simp at hk,[],v 0,v 1,v 3,rfl,?_⟩
 ·intro r
  exact .inl rfl
 ·rw [ds_same]
  unfold vehV vehCode firstV at hv
  split at hv
  ·cases hv
  ·split at hv
   ·cases hv
   ·rename_i h1 h2
    simp at h2
    omega
theorem newC_ok0 {fl:List Ve} {t:List Rq} (h:newC fl t = 0):(1≤fl.length∧fl.length≤4)∧(∀ v ∈ fl,vehV v = 0)∧∀ q ∈ t,rqE q = 0:=by
 unfold newC at h
 split at h
 ·cases h
 ·split at h
  ·cases h
  ·split at h
   ·cases h
   ·rename_i h1 h2 h3
    simp only [List.any_eq_true,not_exists,not_and,bne_iff_ne,ne_eq,Decidable.not_not] at h2 h3
    exact ⟨by omega,h2,h3⟩
theorem ok0 {fl:List Ve} {t:List Rq} (h:newC fl t = 0):PlnOk fl (rows0 fl) t:=by
 obtain ⟨h1,h2,h3⟩:=newC_ok0 h
 refine ⟨by simp [rows0],h1,h2,h3,fun i hi=>?_,fun i j s s' hs=>?_⟩
 ·rw [rows0_at]
  refine right_nil (h2 _ ?_) h3
  rw [List.getD_eq_getElem?_getD,List.getElem?_eq_getElem hi]
  exact List.getElem_mem hi
 ·rw [rows0_at] at hs
  cases hs
structure PSt (B:Nat) (w:World) (b gT gM N:Nat) (fl:List Ve) (rows:List Rou2) (t:List Rq):Prop where
 at_:∃ F,PlanAt w F b gT gM N fl rows t
 ok:PlnOk fl rows t
 tl:t.length≤1000
 gB:B≤gT∧B≤gM∧gT < w.heap.size∧gM < w.heap.size
section
variable {B b gT gM N:Nat} {w:World} {fl:List Ve} {rows:List Rou2} {t:List Rq}
theorem PSt.total (h:PSt B w b gT gM N fl rows t):Calls Tryz.prog 21 #[.pointer (some ⟨b,0,none⟩)] w fun e w'=>e = .returned (.int .i64 (totP fl rows t))∧Below w.heap.size w w':=by
 obtain ⟨⟨F,h1⟩,h2,h3,h4⟩:=h
 exact total_calls h2 h1
theorem PSt.row (h:PSt B w b gT gM N fl rows t) (i:Nat):(rows.getD i []).length≤16:=by
 by_cases hi:i < fl.length
 ·exact (h.ok.right i hi).2.2.1
 ·rw [List.getD_eq_getElem?_getD,List.getElem?_eq_none (by rw [h.ok.len]; omega)]
  simp
theorem PSt.routes (h:PSt B w b gT gM N fl rows t):Calls Tryz.prog 45 #[.pointer (some ⟨b,0,none⟩)] w (RsPost w rows):=by
 have hr:=h.row
 obtain ⟨⟨F,h1⟩,h2,h3,h4⟩:=h
 exact routes_calls h1 (fun i=>by have:=hr i; omega)
theorem PSt.all (h:PSt B w b gT gM N fl rows t) (hN:N≤100000):Calls Tryz.prog 32 #[.pointer (some ⟨b,0,none⟩)] w (AqPost w (allQ rows t)):=by
 obtain ⟨⟨F,h1⟩,h2,h3,h4⟩:=h
 exact pall_calls h2 h3 h1 hN
theorem PSt.has (h:PSt B w b gT gM N fl rows t) (req:Int) (hq:wf64 req):Calls Tryz.prog 22 #[.pointer (some ⟨b,0,none⟩),.int .i64 req] w fun e w'=>e = .returned (.bool (decide (0≤whereP rows req)))∧w = w':=by
 obtain ⟨⟨F,h1⟩,h2,h3,h4⟩:=h
 exact has_calls h1 req hq
end
def RsAt (w:World) (base:Nat) (q:Option Addr) (rows:List Rou2):Prop:=
 ∃ qs,Els w q 1 (rsV rows qs rows.length)∧(∀ a,q = some a→base≤a.block)∧∀ i,i < rows.length→RowI w base (qs.getD i (none,0)) (rows.getD i [])
theorem RsAt.mod {w w':World} {base:Nat} {q:Option Addr} {rows:List Rou2} (h:RsAt w base q rows) {S:Nat→Prop} (hm:Mod S w w') (hs:∀ k,base≤k→¬ S k):RsAt w' base q rows:=by
 obtain ⟨qs,h1,h2,h3⟩:=h
 exact ⟨qs,els_modP h1 hm (fun a ha _=>hs _ (h2 a ha)),h2,fun i hi=>(h3 i hi).mod hm (fun g _ hg _=>hs g hg)⟩
theorem RsAt.below {w w':World} {base:Nat} {q:Option Addr} {rows:List Rou2} (h:RsAt w base q rows) (hb:Below w.heap.size w w'):RsAt w' base q rows:=h.mod ((Mod.refl (fun _=>False) w).after hb) (fun _ _ h=>h)
theorem RsPost.at_ {w w':World} {rows:List Rou2} {e:Ending} (h:RsPost w rows e w'):Below w.heap.size w w'∧∃ q d,e = .returned (.slice q rows.length d)∧rows.length≤d∧RsAt w' w.heap.size q rows:=by
 obtain ⟨h1,q,d,qs,h2,h3,_,h5,h6,h7,_⟩:=h
 exact ⟨h1,q,d,h2,h3,qs,h5,h6,h7⟩
end
section
open Go.RowKit
theorem wf_lit {n:Int} (h:-1000≤n∧n≤1000):wf64 n:=by unfold wf64; omega
end
section
open Go.RowKit
theorem plB_of {x y:Int} (h:0≤x∧x < 1024∧0≤y∧y < 1024):plB x y = true:=decide_eq_true h
theorem wiB_of {e l:Int} (h:0≤e∧e≤l∧l≤1048576):wiB e l = true:=decide_eq_true h
theorem drV_okP (B:List Int) (k:Int):vehV (drV B k) = 0:=by
 have h1:=nx_bd B (k + 1) (m:=20) (by omega)
 have h2:=nx_bd B (k + 2) (m:=20) (by omega)
 have h3:=nx_bd B (k + 3) (m:=20) (by omega)
 have h4:=nx_bd B (k + 4) (m:=20) (by omega)
 have h5:=nx_bd B (k + 5) (m:=100) (by omega)
 show vehCode (500 + nx B (k + 1) 20) (500 + nx B (k + 2) 20) (8 + nx B (k + 3) 20) (nx B (k + 4) 20) (300 + 8 * nx B (k + 5) 100) = 0
 unfold vehCode firstV
 rw [plB_of (by omega),decide_eq_true (by omega),decide_eq_true (by omega),decide_eq_true (by omega)]
 rfl
theorem drR_okP (B:List Int) (wd k fr:Int) (hf:0≤fr∧fr≤100000):rqE (drR B wd k fr) = 0:=by
 have h1:=nx_bd B (k + 1) (m:=40) (by omega)
 have h2:=nx_bd B (k + 2) (m:=60) (by omega)
 have h3:=nx_bd B (k + 3) (m:=20) (by omega)
 have h4:=nx_bd B (k + 4) (m:=20) (by omega)
 have h5:=nx_bd B (k + 5) (m:=20) (by omega)
 have h6:=nx_bd B (k + 6) (m:=20) (by omega)
 have h7:=nx_bd B (k + 7) (m:=9) (by omega)
 have h8:=nx_bd B (k + 8) (m:=4) (by omega)
 have h9:=wideI_bd wd
 show rqCode (500 + nx B (k + 3) 20) (500 + nx B (k + 4) 20) (500 + nx B (k + 5) 20) (500 + nx B (k + 6) 20) (fr + nx B (k + 1) 40) (fr + nx B (k + 1) 40 + wideI wd) (fr + nx B (k + 1) 40 + nx B (k + 2) 60) (fr + nx B (k + 1) 40 + nx B (k + 2) 60 + wideI wd + 30) (1 + nx B (k + 7) 9) (nx B (k + 8) 4) = 0
 unfold rqCode firstC
 rw [plB_of (by omega),plB_of (by omega),wiB_of (by omega),wiB_of (by omega),decide_eq_true (by omega),decide_eq_true (by omega)]
 rfl
theorem addr_one (b:Addr):b.add 1 = ⟨b.block,b.off + 1,none⟩:=by unfold Addr.add; simp
end
end
end Go.Proofs.YtkaoflndbcfodaaGreat
