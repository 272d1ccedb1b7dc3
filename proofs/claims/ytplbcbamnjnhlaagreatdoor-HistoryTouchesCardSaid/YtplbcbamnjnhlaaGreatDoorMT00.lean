/- Short forms. -/
import Derived.Below
import Derived.Lib.Hide
import Derived.WalkKit
namespace Go.Proofs.YtplbcbamnjnhlaaGreatDoor
theorem Lh {p : Prop} (h : p) : Go.RowKit.Hid p := h
theorem T1 {α : Type} {a : α} {l : List α} {n : Nat} : (a :: l).take (n + 1) = a :: l.take n := rfl
theorem T0 {α : Type} {l : List α} : l.take 0 = [] := List.take_zero
theorem dr1 {α : Type} {a : α} {l : List α} {n : Nat} : (a :: l).drop (n + 1) = l.drop n := rfl
theorem dr0 {α : Type} {l : List α} : l.drop 0 = l := rfl
theorem nr (n : Nat) : n ≤ n := Nat.le_refl n
theorem br (B : Nat) (w : World) : Go.RowKit.Below B w w := Go.RowKit.Below.refl B w
theorem hzn (w : World) (o : Obj) : (w.alloc o).heap[w.heap.size]? = some o := Go.heap_alloc_new w o
theorem sz_ (w : World) (o : Obj) : (w.alloc o).heap.size = w.heap.size + 1 := World.size_alloc w o
theorem gl {α : Type} {xs : Array α} {i : Nat} {a : α} (h : xs[i]? = some a) : i < xs.size := (Array.getElem?_eq_some_iff.1 h).1
end Go.Proofs.YtplbcbamnjnhlaaGreatDoor
namespace Go.RowKit
theorem Hid.o {p : Prop} (h : Hid p) : p := h
end Go.RowKit
