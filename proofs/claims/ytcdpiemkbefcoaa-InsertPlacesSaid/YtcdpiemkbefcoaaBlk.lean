/-
  A block of the heap as a whole, of no program.
-/
import Derived.Test.YtcdpiemkbefcoaaQuiet
import Derived.Laws.EntriesVeiled
namespace Go.Proofs.Ytcdpiemkbefcoaa
open Go.RowKit

/-- a block of the heap, nothing of it frozen -/
def Blk (w : World) (b : Nat) (C : Array Value) (t : TypeId) : Prop := w.heap[b]? = some (.cells C t (0, 0))
theorem Blk.lt {w : World} {b : Nat} {C : Array Value} {t : TypeId} (h : Blk w b C t) : b < w.heap.size := by
  rcases Nat.lt_or_ge b w.heap.size with g | g
  · exact g
  · unfold Blk at h; rw [Array.getElem?_eq_none g] at h; cases h
theorem Blk.cell {w : World} {b : Nat} {C : Array Value} {t : TypeId} (h : Blk w b C t) {i : Nat} {v : Value} (hv : C[i]? = some v) : w.cell? ⟨b, i, none⟩ = some v := by
  unfold Blk at h; simp [World.cell?, h, hv]
theorem Blk.froz {w : World} {b : Nat} {C : Array Value} {t : TypeId} (h : Blk w b C t) (i : Nat) : w.frozen? ⟨b, i, none⟩ = false := by
  unfold Blk at h; simp [World.frozen?, h]
theorem Blk.set {w : World} {b : Nat} {C : Array Value} {t : TypeId} (h : Blk w b C t) (i : Nat) (v : Value) : Blk (w.setCell ⟨b, i, none⟩ v) b (C.setIfInBounds i v) t := by
  unfold Blk at h ⊢
  show (w.heap.modify b _)[b]? = _
  rw [Array.getElem?_modify]
  simp [h]
theorem Blk.other {w : World} {b : Nat} {C : Array Value} {t : TypeId} (h : Blk w b C t) {p : Addr} (hp : b ≠ p.block) (v : Value) : Blk (w.setCell p v) b C t := setCell_heap h hp
theorem Blk.alloc {w : World} {b : Nat} {C : Array Value} {t : TypeId} (h : Blk w b C t) (o : Obj) : Blk (w.alloc o) b C t := (Below.heap_alloc w o b h.lt).trans h
theorem Blk.new (w : World) (C : Array Value) (t : TypeId) : Blk (w.alloc (.cells C t)) w.heap.size C t := World.alloc_heap_new w _
theorem Blk.new' (w : World) (o : Obj) (C : Array Value) (t : TypeId) : Blk ((w.alloc o).alloc (.cells C t)) (w.heap.size + 1) C t := by
  have h := Blk.new (w.alloc o) C t
  have e : (w.alloc o).heap.size = w.heap.size + 1 := by show (w.heap.push _).size = _; simp
  rwa [e] at h
theorem Blk.drew {w : World} {b : Nat} {C : Array Value} {t : TypeId} (h : Blk w b C t) : Blk w.drew b C t := h
theorem Blk.mod {w w' : World} {b : Nat} {C : Array Value} {t : TypeId} (h : Blk w b C t) {S : Nat → Prop} (hm : Mod S w w') (hs : ¬ S b) : Blk w' b C t := (hm.block b h.lt hs).trans h

end Go.Proofs.Ytcdpiemkbefcoaa
