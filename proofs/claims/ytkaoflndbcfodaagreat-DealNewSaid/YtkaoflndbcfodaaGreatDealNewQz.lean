/-
  The row 'DealNew': a pack of the texts DealNewRow, pruned to what the row uses.
-/
import Derived.Test.YtkaoflndbcfodaaGreatDealNewQ34
namespace Go.Proofs.YtkaoflndbcfodaaGreat
set_option maxHeartbeats 8000000
set_option maxRecDepth 100000
section
open Go.ChangeShapes Go.WideShapes Go.ChangeAt Go.RowKit
open Go.ChangeMaps (open_string shut_string)
theorem DealNew_calls {H:Type} {enc:TypeId × Value→H} {W:World} {base:Nat} {v0 v1:Value} {d0 d1:DataW H} {p0 p1:List MemPlace}
  (hv0:Value.okWide Tryz.prog W .any base 26 v0) (h0:DataW.Trod enc Tryz.prog W 0 (fun _=>true) true 26 v0 d0 p0)
  (hv1:Value.okWide Tryz.prog W .any base 28 v1) (h1:DataW.Trod enc Tryz.prog W 0 (fun _=>true) true 28 v1 d1 p1):
  Calls Tryz.prog 3 #[v0,v1] W fun e w'=>e = .returned (.bool true)∧Below W.heap.size W w':=by
 obtain ⟨p,pw,cp,cw,B,Wh,n,wd,k,nn,hA,hwA,hnn,rfl⟩:=arg_draft28 hv0 h0
 obtain ⟨x1,y1,z1,r1,s1,t1,rfl⟩:=arg_bend hv1 h1
 exact DealNew_walk p pw cp cw B Wh n wd k nn x1 y1 z1 W hA hwA hnn r1 s1 t1
theorem DealNew_lifted (os:Os) (started:os.Started) (H:Type) (enc:TypeId × Value→H):
  ReturnsInHanded {} Tryz.checked os 3 .any (Rows.dealNewSpec.pre6 enc Tryz.prog Tryz.f3 Rows.dealNewRow.domain false) (Rows.dealNewSpec.post enc Tryz.prog Tryz.f3 false true false false):=by
 refine returnsInHanded_of_change_sized (C:=Tryz.checked) wrap_own started (by kernel_rfl) Tryz.func3
  (ChangeSpec.witness6 (enc:=enc) (C:=Tryz.checked) false ⟨#[],#[.agg #[.slice none 0 0,.int .u8 0,.int .u8 0,.int .i64 0,.slice none 0 0,.int .u8 0],.agg #[.int .u8 0,.int .u8 0,.int .i64 0]],[]⟩ 8 (by kernel_rfl) (by kernel_rfl) (by kernel_rfl) (by kernel_rfl)) ?_
 intro W base args ds gs before hval0 hW hcnd hsz0 _
 have hval:∀ (j:Nat) t v,Tryz.f3.params[j]? = some t→args[j]? = some v→Value.okWide Tryz.prog W .any base t v:=hval0
 refine law_post (s:=Rows.dealNewSpec) rfl (by kernel_rfl) ?_ ?_ hW ?_
 ·intro H ds hl
  have hl':ds.length = 2:=hl.trans (by rw [Tryz.params3]; rfl)
  match ds,hl' with
  | [_,_],_=>rfl
 ·rw [Tryz.params3]
  intro t ht
  simp only [List.mem_cons,List.not_mem_nil,or_false] at ht
  rcases ht with rfl | rfl <;> exact ⟨by kernel_rfl,of_decide_eq_true (by kernel_rfl)⟩
 ·obtain ⟨p,q,hA0,hV,rfl,hfz,hnd⟩:=hW
  have hA:DataW.TrodAll enc Tryz.prog W 0 (fun _=>true) true Tryz.f3.params.toList args.toList ds p:=hA0
  rw [Tryz.params3] at hA hval
  obtain ⟨v0,vs0,d0,ds0,p0,q0,hargs,rfl,rfl,h0,r0⟩:=trodAll_cons hA
  obtain ⟨v1,vs1,d1,ds1,p1,q1,rfl,rfl,rfl,h1,r1⟩:=trodAll_cons r0
  obtain ⟨rfl,rfl,rfl⟩:=trodAll_nil r1
  obtain rfl:args = #[v0,v1]:=by cases args; simp_all
  exact DealNew_calls (hval 0 _ v0 rfl rfl) h0 (hval 1 _ v1 rfl rfl) h1
theorem DealNew_said:Rows.DealNewSaid:=
 OpenClaim.holds_of_wide 3 Tryz.f3 rfl rfl rfl rfl rfl rfl rfl ⟨rfl,rfl,rfl,rfl,rfl⟩ rfl rfl rfl rfl rfl (by kernel_rfl) Tryz.func3 (by kernel_rfl)
  (of_decide_eq_true (by kernel_rfl)) (by unfold Func.isWrapper; first | (rw [if_pos (by decide +kernel)]; kernel_rfl) | (rw [if_neg (by decide +kernel)]; exact ⟨rfl,rfl⟩))
  (fun os started H enc _=>DealNew_lifted os started H enc)
end
end Go.Proofs.YtkaoflndbcfodaaGreat
