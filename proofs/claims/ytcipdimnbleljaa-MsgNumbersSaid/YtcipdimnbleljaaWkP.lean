/-
  The examples of chapter 18, as plain values.
-/
import Derived.Test.YtcipdimnbleljaaDe
namespace Go.Proofs.Ytcipdimnbleljaa
open Go.RowKit
open Extern.Stop (cell)

def mOpen : MV := { zeroM with kind := 4, round := 3, carrier := 1, bid := 7, nonce := 9 }
def mRes : MV := { zeroM with kind := 5, state := 3, winner := -1 }
def mCall : MV := { zeroM with kind := 3, round := 2 }
def cOpen : Array Value := ((((zero53.setIfInBounds 0 (.int .i64 4)).setIfInBounds 1 (.int .i64 3)).setIfInBounds 2 (.int .i64 1)).setIfInBounds 48 (.int .u64 7)).setIfInBounds 49 (.int .u64 9)
def cRes : Array Value := ((zero53.setIfInBounds 0 (.int .i64 5)).setIfInBounds 50 (.int .i64 3)).setIfInBounds 51 (.int .i64 (-1))
def cCall : Array Value := (zero53.setIfInBounds 0 (.int .i64 3)).setIfInBounds 1 (.int .i64 2)
theorem open_of : MsgOf cOpen mOpen := by
  refine ⟨rfl, rfl, rfl, rfl, rfl, rfl, ?_, ?_, rfl, rfl, rfl, rfl, rfl, rfl, rfl⟩
  · intro i hi
    unfold cOpen
    repeat rw [set_ne (by omega)]
    exact zero_of.h5 i hi
  · intro i hi
    unfold cOpen
    repeat rw [set_ne (by omega)]
    exact zero_of.h15 i hi
theorem res_of : MsgOf cRes mRes := by
  refine ⟨rfl, rfl, rfl, rfl, rfl, rfl, ?_, ?_, rfl, rfl, rfl, rfl, rfl, rfl, rfl⟩
  · intro i hi
    unfold cRes
    repeat rw [set_ne (by omega)]
    exact zero_of.h5 i hi
  · intro i hi
    unfold cRes
    repeat rw [set_ne (by omega)]
    exact zero_of.h15 i hi
theorem call_of : MsgOf cCall mCall := by
  refine ⟨rfl, rfl, rfl, rfl, rfl, rfl, ?_, ?_, rfl, rfl, rfl, rfl, rfl, rfl, rfl⟩
  · intro i hi
    unfold cCall
    repeat rw [set_ne (by omega)]
    exact zero_of.h5 i hi
  · intro i hi
    unfold cCall
    repeat rw [set_ne (by omega)]
    exact zero_of.h15 i hi
theorem i64_lit (n : Int) (h : -9223372036854775808 ≤ n ∧ n < 9223372036854775808) : I64 n := h
theorem open_rg : MsgRg mOpen := by
  refine ⟨?_, ?_, ?_, ?_, ?_, fun _ _ => rg0, (fun x hx => by cases hx), ?_, ?_, ?_, ?_, ?_⟩ <;> (first | exact rg0 | exact ug0 | (constructor <;> decide))
theorem res_rg : MsgRg mRes := by
  refine ⟨?_, ?_, ?_, ?_, ?_, fun _ _ => rg0, (fun x hx => by cases hx), ?_, ?_, ?_, ?_, ?_⟩ <;> (first | exact rg0 | exact ug0 | (constructor <;> decide))
theorem call_rg : MsgRg mCall := by
  refine ⟨?_, ?_, ?_, ?_, ?_, fun _ _ => rg0, (fun x hx => by cases hx), ?_, ?_, ?_, ?_, ?_⟩ <;> (first | exact rg0 | exact ug0 | (constructor <;> decide))
theorem nil_marks (m : MV) (w : World) (h : m.ms = []) : MarksAt w m := ⟨fun _ => h, (fun x hx => by rw [h] at hx; cases hx), by rw [h]; show 0 ≤ _; omega, (fun a ha j v hv => by rw [h] at hv; simp [mkCells] at hv)⟩
theorem open_may : mayB mOpen = true := by decide
theorem res_may : mayB mRes = true := by decide
theorem call_may : mayB mCall = true := by decide
theorem open_S : encS mOpen = ⟨#[4, 0, 18, 3, 1, 0, 0, 0, 0, 0, 0, 0, 7, 0, 0, 0, 0, 0, 0, 0, 9]⟩ := by decide
theorem res_S : encS mRes = ⟨#[5, 0, 11, 0, 3, 0, 0, 0, 0, 0, 0, 0, 0, 0]⟩ := by decide
theorem call_S : encS mCall = ⟨#[3, 0, 2, 2, 0]⟩ := by decide
theorem call_D : decE ⟨#[3, 0, 2, 2, 0]⟩ = 0 := by decide
theorem call_R (p : Option Addr) : decR ⟨#[3, 0, 2, 2, 0]⟩ p = decM 3 ⟨#[2, 0]⟩ p := by
  have e : Frm.parB ⟨#[3, 0, 2, 2, 0]⟩ = ⟨#[2, 0]⟩ := by decide
  unfold decR
  rw [if_pos call_D, e]
  rfl
theorem ref_1 : decE ⟨#[3, 0, 2, 2, 1]⟩ = 14 := by decide
theorem ref_2 : decE ⟨#[9, 0, 0]⟩ = 15 := by decide
theorem ref_3 : decE ⟨#[3, 0, 3, 2, 0, 0]⟩ = 15 := by decide
end Go.Proofs.Ytcipdimnbleljaa
