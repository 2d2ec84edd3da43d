/-
  The row 'DealNew': a pack of the texts Do28, pruned to what the row uses.
-/
import Derived.Test.YtkaoflndbcfodaaGreatDealNewQ32
namespace Go.Proofs.YtkaoflndbcfodaaGreat
set_option maxHeartbeats 8000000
set_option maxRecDepth 100000
section
section
open Go.RowKit
theorem BoR.st {w0 w:World} {B0:Nat} {t:List Rq} {gB:Nat} {CB:Array Value} {L:List Pc} {d gP cP:Nat} {qK:Option Addr} {cK dd gR:Nat} {F:Nat→Prop} {fls:List (List Ve)} {Rs:List (List Rou2)} {H:List Int} {qF:Option Addr} {cF:Nat} {pf:List (Option Addr × Nat)} {cR:Nat} {pr:List (Option Addr × Nat)} {qss:List (List (Option Addr × Nat))} {qT:Option Addr} {cT:Nat} {qH:Option Addr} {cH:Nat}
  (h:BoR w B0 t gB CB L d gP cP qK cK dd gR F fls Rs H qF cF pf cR pr qss qT cT qH cH) (hb:Below w0.heap.size w0 w) (hB:w0.heap.size≤B0):St28 w0 B0 t fls (L.map (·.b)) d gP cP qK cK gB H.length 0 L H w:=by
 have hlt:=h.blk.lt
 refine ⟨h.pcs,h.dl,h.holds.1,h.len,rfl,fun c hc=>?_,?_,by rw [List.length_map]; exact h.len,⟨hlt,h.lo.2.2.2.1,hB⟩,h.nB,fun a ha hH=>⟨h.loK a ha hH,fun e=>?_⟩,hb⟩
 ·obtain ⟨a1,a2,a3⟩:=h.eq c hc
  refine ⟨?_,a1,by omega⟩
  have hcL:c < L.length:=by rw [h.len]; exact hc
  rw [List.getD_eq_getElem?_getD,List.getD_eq_getElem?_getD,List.getElem?_map,List.getElem?_eq_getElem hcL]
  rfl
 ·have:=h.pls
  rw [List.map_map]
  exact this
 ·obtain ⟨g2,C2,e2,hB2⟩:=h.dl.hb hH
  rw [e2] at ha
  cases ha
  simp only at e
  subst e
  exact blk_ne28 h.blk hB2 (by decide)
end
end
end Go.Proofs.YtkaoflndbcfodaaGreat
