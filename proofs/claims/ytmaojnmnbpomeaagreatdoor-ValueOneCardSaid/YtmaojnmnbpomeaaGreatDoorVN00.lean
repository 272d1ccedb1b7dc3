/- Short forms. -/
import Derived.Below
import Derived.Lib.Hide
import Derived.WalkKit
import Derived.Laws.CopyOwn
namespace Go.Proofs.YtmaojnmnbpomeaaGreatDoor
open Go.RowKit
variable{n:Nat}{α:Type}
theorem Lh {p : Prop} (h : p) : Go.RowKit.Hid p := h
theorem Lt (p : Prop) (h : p) : Go.RowKit.Hid p := h
theorem Xe.{u} {α : Sort u} (a : α) : ∃x, x = a := ⟨a, rfl⟩
theorem Xta  {a : α} {l : List α}  : (a :: l).take (n + 1) = a :: l.take n := rfl
theorem Xtz  {l : List α} : l.take 0 = [] := List.take_zero
theorem Xda  {a : α} {l : List α}  : (a :: l).drop (n + 1) = l.drop n := rfl
theorem Xdz  {l : List α} : l.drop 0 = l := rfl
theorem Xc {w : World} {g j : Nat} {cs : Array Value} {t : TypeId} {fr : Nat × Nat} {v : Value} (hg : w.heap[g]?=some (.cells cs t fr)) (h : cs[j]?=some v) : w.cell? ⟨g, j, none⟩ = some v := by rw [cell_of_row _ _ _ _ _ _ hg]; exact h
theorem Xr (B : Nat) (w : World) : Go.RowKit.Below B w w := Go.RowKit.Below.refl B w
theorem Xn (w : World) (o : Obj) : (w.alloc o).heap[w.heap.size]?=some o := Go.heap_alloc_new w o
theorem Xs (w : World) (o : Obj) : (w.alloc o).heap.size = w.heap.size + 1 := World.size_alloc w o
theorem gl  {xs : Array α} {i : Nat} {a : α} (h : xs[i]?=some a) : i < xs.size := (Array.getElem?_eq_some_iff.1 h).1
theorem Qa : type_of% (@List.getElem?_eq_getElem.{0}) := @List.getElem?_eq_getElem.{0}
theorem Qb : type_of% (@List.getD_eq_getElem?_getD.{0}) := @List.getD_eq_getElem?_getD.{0}
theorem Qc : type_of% (@List.take_succ_eq_append_getElem.{0}) := @List.take_succ_eq_append_getElem.{0}
theorem Qd : type_of% (@List.take_of_length_le.{0}) := @List.take_of_length_le.{0}
theorem Qe : type_of% (@List.length_append.{0}) := @List.length_append.{0}
theorem Qf : type_of% (@List.length_singleton.{0}) := @List.length_singleton.{0}
theorem Qg : type_of% (@List.getElem_mem.{0}) := @List.getElem_mem.{0}
theorem Qh : type_of% (@List.mem_append.{0}) := @List.mem_append.{0}
theorem Qi : type_of% (@List.mem_singleton.{0}) := @List.mem_singleton.{0}
theorem Qj : type_of% (@List.getElem?_eq_some_iff.{0}) := @List.getElem?_eq_some_iff.{0}
theorem Qk : type_of% (@List.length_map.{0}) := @List.length_map.{0}
theorem Ql : type_of% (@List.drop_eq_getElem_cons.{0}) := @List.drop_eq_getElem_cons.{0}
theorem Qm : type_of% (@List.length_set.{0}) := @List.length_set.{0}
theorem Qn : type_of% (@List.getElem?_append_right.{0}) := @List.getElem?_append_right.{0}
theorem Qo : type_of% (@List.getElem?_append_left.{0}) := @List.getElem?_append_left.{0}
theorem Qp : type_of% (@List.mem_of_getElem?.{0}) := @List.mem_of_getElem?.{0}
theorem Qq : type_of% (@List.length_take.{0}) := @List.length_take.{0}
theorem Qr : type_of% (@List.length_replicate.{0}) := @List.length_replicate.{0}
theorem Qs : type_of% (@List.flatten_append.{0}) := @List.flatten_append.{0}
theorem Qt : type_of% (@List.map_append.{0}) := @List.map_append.{0}
theorem Qu : type_of% (@List.length_cons.{0}) := @List.length_cons.{0}
theorem Qv : type_of% (@List.getElem?_map.{0}) := @List.getElem?_map.{0}
theorem Qw : type_of% (@List.mem_filter.{0}) := @List.mem_filter.{0}
theorem Qx : type_of% (@List.pairwise_cons.{0}) := @List.pairwise_cons.{0}
theorem Qy : type_of% (@List.length_pos_iff.{0}) := @List.length_pos_iff.{0}
theorem Qz : type_of% (@List.getElem_of_mem.{0}) := @List.getElem_of_mem.{0}
theorem Xa : type_of% (@List.mem_map.{0}) := @List.mem_map.{0}
theorem Xd : type_of% (@List.append_assoc.{0}) := @List.append_assoc.{0}
theorem Xf : type_of% (@List.getElem_map.{0}) := @List.getElem_map.{0}
theorem Xg : type_of% (@List.getElem?_eq_none.{0}) := @List.getElem?_eq_none.{0}
theorem Xh : type_of% (@List.getElem?_replicate.{0}) := @List.getElem?_replicate.{0}
theorem Xi : type_of% (@List.mem_cons_self.{0}) := @List.mem_cons_self.{0}
theorem Xj : type_of% (@List.mem_cons_of_mem.{0}) := @List.mem_cons_of_mem.{0}
theorem Xl : type_of% (@List.length_drop.{0}) := @List.length_drop.{0}
theorem Xm : type_of% (@List.drop_of_length_le.{0}) := @List.drop_of_length_le.{0}
theorem Xp : type_of% (@List.take_append_drop.{0}) := @List.take_append_drop.{0}
theorem Xq : type_of% (@List.all_eq_true.{0}) := @List.all_eq_true.{0}
theorem Xt : type_of% (@List.any_eq_true.{0}) := @List.any_eq_true.{0}
theorem Xu : type_of% (@List.length_nil.{0}) := @List.length_nil.{0}
theorem Xv : type_of% (@List.mem_flatMap.{0}) := @List.mem_flatMap.{0}
theorem Xw : type_of% (@List.getElem?_set.{0}) := @List.getElem?_set.{0}
theorem Xx : type_of% (@List.eq_nil_of_length_eq_zero.{0}) := @List.eq_nil_of_length_eq_zero.{0}
theorem Xy : type_of% (@List.drop_succ_cons.{0}) := @List.drop_succ_cons.{0}
theorem Xz : type_of% (@Array.getElem?_modify.{0}) := @Array.getElem?_modify.{0}
theorem Ya : type_of% (@List.mem_range) := @List.mem_range
theorem Yb : type_of% (@Nat.le_refl) := @Nat.le_refl
theorem Yd : type_of% (@Nat.le_trans) := @Nat.le_trans
theorem Ye : type_of% (@Nat.lt_of_lt_of_le) := @Nat.lt_of_lt_of_le
theorem Yf : type_of% (@Nat.lt_succ_self) := @Nat.lt_succ_self
theorem Yg : type_of% (@Nat.zero_le) := @Nat.zero_le
theorem Yh : type_of% (@Nat.le_of_lt) := @Nat.le_of_lt
theorem Yi : type_of% (@Nat.le_succ) := @Nat.le_succ
theorem Yj : type_of% (@Nat.le_of_eq) := @Nat.le_of_eq
theorem Yk : type_of% (@decide_eq_true_eq) := @decide_eq_true_eq
theorem Yl : type_of% (@decide_eq_false_iff_not) := @decide_eq_false_iff_not
theorem Ym : type_of% (@Bool.and_eq_true) := @Bool.and_eq_true
theorem Yn : type_of% (@Bool.or_eq_false_iff) := @Bool.or_eq_false_iff
theorem Yo : type_of% (@Bool.eq_false_or_eq_true) := @Bool.eq_false_or_eq_true
theorem Yp : type_of% (@beq_eq_false_iff_ne) := @beq_eq_false_iff_ne
theorem Yq : type_of% (@Nat.add_zero) := @Nat.add_zero
theorem Yr : type_of% (@Nat.zero_add) := @Nat.zero_add
theorem Ys : type_of% (@Nat.mul_one) := @Nat.mul_one
theorem Yt : type_of% (@Bool.false_or) := @Bool.false_or
theorem Yu : type_of% (@Bool.or_eq_true) := @Bool.or_eq_true
theorem Yv : type_of% (@bne_iff_ne) := @bne_iff_ne
theorem Yw : type_of% (@decide_eq_true) := @decide_eq_true
theorem Yx : type_of% (@decide_eq_false) := @decide_eq_false
theorem Yy : type_of% (@Nat.add_assoc) := @Nat.add_assoc
theorem Yz : type_of% (@Int.toNat_natCast) := @Int.toNat_natCast
theorem Za : type_of% (@World.ownsRow_nil) := @World.ownsRow_nil
theorem Zb : type_of% (@World.size_setCell) := @World.size_setCell
theorem Zc : type_of% (@heap_setCell_other) := @heap_setCell_other
theorem Zd : type_of% (@cell_of_row) := @cell_of_row
theorem Ze : type_of% (@Below.heap_setCell) := @Below.heap_setCell
theorem Zf : type_of% (@Below.heap_alloc) := @Below.heap_alloc
theorem Zg : type_of% (@Sem.run_bind) := @Sem.run_bind
theorem Zh : type_of% (@bodyPost_ret) := @bodyPost_ret
theorem Zi : type_of% (@results_tmp3) := @results_tmp3
theorem Zj : type_of% (@setRow_heap) := @setRow_heap
theorem Zk : type_of% (@below_setRow) := @below_setRow
theorem Zl : type_of% (@ownsRow_setCell_below) := @ownsRow_setCell_below
theorem Zm : type_of% (@World.block_lt_of_cell?) := @World.block_lt_of_cell?
end Go.Proofs.YtmaojnmnbpomeaaGreatDoor
namespace Go.RowKit
theorem Hid.o {p : Prop} (h : Hid p) : p := h
end Go.RowKit
