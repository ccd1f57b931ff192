import Derived.Test.Qxb6500585aWalks
namespace Go.Proofs.Qxb6500585a
open Go.RowKit Go.CommN Go.Conc

theorem w64byte (b : UInt8) : wrap64 (b.toNat : Int) = (b.toNat : Int) := by have := b.toNat_lt; unfold wrap64; omega
theorem make6 (w : World) : (Instr.makeSlice 44 (.int .i64 6) (.int .i64 6)).run Try.prog w = .ok (.slice (some ⟨w.heap.size, 0, none⟩) 6 6) (w.alloc (.cells #[.int .i64 0, .int .i64 0, .int .i64 0, .int .i64 0, .int .i64 0, .int .i64 0] 3)) := by kernel_rfl

def items6 (b0 b1 b2 b3 b4 b5 : UInt8) : ByteArray := ⟨#[b0, b1, b2, b3, b4, b5]⟩
def by6 (b : UInt8) : Value := .int .i64 (b.toNat : Int)

set_option maxHeartbeats 1000000 in
theorem load_any (m s : Nat) (hs : s < 3) (b0 b1 b2 b3 b4 b5 : UInt8) (u : Value) (w : World) (hm : w.cell? ⟨m, s, none⟩ = some u) (hf : w.frozen? ⟨m, s, none⟩ = false) (hmw : m < w.heap.size) :
    Calls Try.prog 18 #[.pointer (some ⟨m, 0, none⟩), .int .i64 s, .string ⟨#[b0, b1, b2, b3, b4, b5]⟩] w fun e w' => e = .returned (.int .i64 0) ∧
      w' = (w.setCell ⟨m, s, none⟩ (.slice (some ⟨w.heap.size, 0, none⟩) 6 6)).alloc (.cells #[.int .i64 (b0.toNat : Int), .int .i64 (b1.toNat : Int), .int .i64 (b2.toNat : Int), .int .i64 (b3.toNat : Int), .int .i64 (b4.toNat : Int), .int .i64 (b5.toNat : Int)] 3) := by
  have hs' : (s : Int) < 3 := by omega
  have hmk := make6
  go_enter Try.func18, Try.ntmps18
  go_wp2
  refine wp_loop_rounds 7 ?_
  rw [rounds_succ]
  go_wp2
  rw [rounds_succ]
  go_wp2
  rw [rounds_succ]
  go_wp2
  rw [rounds_succ]
  go_wp2
  rw [rounds_succ]
  go_wp2
  rw [rounds_succ]
  go_wp2
  rw [rounds_succ]
  go_wp2
  go_ret
  exact ⟨rfl, by simp only [w64byte]; rfl⟩

/-! ### fill -/
theorem setChan_alloc (w : World) (o : Obj) (cap : Nat) (buf : Array Value) (cl : Bool) (s r : Nat) (tm : Bool) : (w.alloc o).setChan w.heap.size cap buf cl s r tm = w.alloc (.chan cap buf cl s r tm) := by
  have h : ((w.heap.push o).setIfInBounds w.heap.size (.chan cap buf cl s r tm)) = w.heap.push (.chan cap buf cl s r tm) := by
    apply Array.ext_getElem?
    intro i
    simp only [Array.getElem?_setIfInBounds, Array.getElem?_push, Array.size_push]
    by_cases hi : w.heap.size = i
    · subst hi; simp
    · have hi' : ¬ i = w.heap.size := fun e => hi e.symm
      simp [hi, hi']
  simp only [World.setChan, World.alloc, h]
def chanOf (l : List Int) (j : Nat) : Obj := .chan 6 ((l.take j).map (Value.int .i64)).toArray false j 0 false
theorem chanOf_snoc (l : List Int) (j : Nat) (h : j < l.length) : ((l.take j).map (Value.int .i64)).toArray.push (.int .i64 (l.getD j 0)) = ((l.take (j + 1)).map (Value.int .i64)).toArray := by
  rw [take_snoc l j h]; simp

set_option maxHeartbeats 1000000 in
theorem fill_any (ao : Option Addr) (n cap : Nat) (l : List Int) (hn : n = l.length) (hn6 : n ≤ 6) (w : World)
    (hc : ∀ j, j < n → ∃ b off, ao = some ⟨b, off, none⟩ ∧ w.cell? ⟨b, off + j, none⟩ = some (.int .i64 (l.getD j 0))) :
    Calls Try.prog 42 #[.slice ao n cap] w fun e w' => e = .returned (.chan (some w.heap.size)) ∧ w' = w.alloc (chanOf l n) := by
  have HN : Hid (n = l.length) := hn
  clear hn
  have hmc := mkChan6
  refine calls_of_wpN Try.func42 rfl ?_
  simp only [Try.ntmps42, List.size_toArray, List.length_cons, List.length_nil, Nat.reduceAdd, Nat.reduceSub, Array.replicate_succ, Array.replicate_zero, List.push_toArray, List.append_toArray, List.nil_append, List.cons_append]
  refine wpN_seq_wp ?_
  go_wp2
  refine wpN_seq_wp ?_
  go_wp2
  refine wpN_seq (wpN_seq_wp ?_)
  go_wp2
  refine wpN_block ?_
  refine wpN_loop (fun a' w' => ∃ (j : Nat) (u5 u10 u11 u12 u13 u14 u15 : Value), j ≤ n ∧ w' = w.alloc (chanOf l j) ∧
      a' = ⟨#[.slice ao n cap, undef, .chan none, .chan (some w.heap.size), undef, u5, .chan (some w.heap.size), .slice ao n cap, .int .i64 n, .int .i64 j, u10, u11, u12, u13, u14, u15, undef], []⟩)
    (fun a' _ => n - (intOf (a'.tmps.getD 9 undef)).toNat) ⟨0, undef, undef, undef, undef, undef, undef, undef, Nat.zero_le _, rfl, rfl⟩ ?_
  rintro _ _ ⟨j, u5, u10, u11, u12, u13, u14, u15, hj, rfl, rfl⟩
  by_cases hlt : j < n
  · obtain ⟨b, off, rfl, hcell⟩ := hc j hlt
    have hbw : b < w.heap.size := World.block_lt_of_cell? _ _ hcell
    have HS : Hid (((l.take j).map (Value.int .i64)).toArray.push (.int .i64 (l.getD j 0)) = ((l.take (j + 1)).map (Value.int .i64)).toArray) := chanOf_snoc l j (by have := HN.out; omega)
    generalize l.getD j 0 = v at hcell HS
    clear hc
    refine wpN_seq_wp ?_
    go_wp2
    refine wpN_seq_wp ?_
    go_wp2
    refine wpN_seq (wpN_block (wpN_seq_wp ?_))
    go_wp2
    refine wpN_region ?_
    show wpR _ _ _ [0, 1, 2] _ _
    refine wpR_value rfl rfl (v := .chan (some w.heap.size)) (w' := w.alloc (chanOf l j)) (by simp [go_sem, execOp, Act.eval]) ?_
    refine wpR_value rfl rfl (v := .int .i64 v) (w' := w.alloc (chanOf l j)) (by simp [go_sem, execOp, Act.eval, Act.put]) ?_
    refine wpR_send (c := w.heap.size) (v := .int .i64 v) (z := .tuple #[]) (w₁ := w.alloc (chanOf l j)) rfl rfl (by simp [go_sem, execOp, Act.eval, Act.put, scase]) (heap_alloc_new w _) (by simp; omega) ?_
    have hset : (w.alloc (chanOf l j)).setChan w.heap.size 6 (((l.take j).map (Value.int .i64)).toArray.push (.int .i64 v)) false (j + 1) 0 false = w.alloc (chanOf l (j + 1)) := by
      rw [HS.out]; exact setChan_alloc _ _ _ _ _ _ _ _
    rw [hset]
    refine wpR_nil ?_
    simp only [Exit.inBlock, Exit.then, Act.put]
    refine wpN_of_wp ?_
    go_wp2
    exact ⟨⟨j + 1, _, _, _, _, _, _, _, by omega, rfl, rfl⟩, by simp [intOf]; omega⟩
  · have hjn : j = n := by omega
    refine wpN_seq_wp ?_
    go_wp2
    refine wpN_seq_wp ?_
    go_wp2
    refine wpN_of_wp ?_
    go_wp2
    go_ret
    exact ⟨rfl, rfl⟩
end Go.Proofs.Qxb6500585a
