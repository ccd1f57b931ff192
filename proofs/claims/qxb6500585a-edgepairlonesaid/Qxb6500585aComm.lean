/- A walk's predicate for a frame of an ordinary call ('wpN'), with the laws of sequence, block, test, loop, and of a region that holds ONE communication of the lone goroutine: a send with room; a select of two receives. -/
import Derived.WalkKit
import Derived.Conc.LoneSelectN
import Derived.Conc.LoneCalls
namespace Go.CommN
open Go.Conc

/-- 'Code.wp' at frames of ordinary calls alone. -/
def wpN (P : Program) (c : Code) (Q : Exit → Act → World → Prop) (a : Act) (w : World) : Prop :=
  ∀ (b : Frame) (k : List Item) (cs : List Frame), b.kind = .normal →
    ∃ e a' w', Q e a' w' ∧ Arrives P (lone (b.at a (.code c :: k)) cs w) b k cs e a' w'

/-- The same inside a region. -/
def wpR (P : Program) (ops : Array Oper) (Q : Exit → Act → World → Prop) (l : List Nat) (a : Act) (w : World) : Prop :=
  ∀ (b : Frame) (k : List Item) (cs : List Frame), b.kind = .normal →
    ∃ e a' w', Q e a' w' ∧ Arrives P (lone (b.at a (.inRegion ops l :: k)) cs w) b k cs e a' w'

section
variable {P : Program} {Q : Exit → Act → World → Prop} {a : Act} {w : World}

theorem wpN_of_wp {c : Code} (h : c.wp P Q a w) : wpN P c Q a w := fun b k cs _ => h b k cs

theorem wpN_seq {x y : Code} (h : wpN P x (Exit.then (wpN P y Q) Q) a w) : wpN P (Code.seq x y) Q a w := by
  intro b k cs hb
  obtain ⟨e, a₁, w₁, hq, harr⟩ := h b (.code y :: k) cs hb
  cases e with
  | normal =>
    obtain ⟨e₂, a₂, w₂, hq₂, harr₂⟩ := hq b k cs hb
    exact ⟨e₂, a₂, w₂, hq₂, .of_steps (.head step_seq harr) harr₂⟩
  | exit id => exact ⟨_, a₁, w₁, hq, .of_steps (.one step_seq) (.pass (x := .code y) rfl (fun _ _ => .inl (by simp)) harr)⟩
  | goto l => exact ⟨_, a₁, w₁, hq, .of_steps (.one step_seq) (.pass (x := .code y) rfl (fun _ _ => .inl (by simp)) harr)⟩
  | ret => exact ⟨_, a₁, w₁, hq, .of_steps (.one step_seq) (.pass (x := .code y) rfl (fun _ _ => .inl (by simp)) harr)⟩
  | panic ch => exact ⟨_, a₁, w₁, hq, .of_steps (.one step_seq) (.pass (x := .code y) rfl (fun _ _ => .inl (by simp)) harr)⟩
  | outgrown => exact ⟨_, a₁, w₁, hq, .of_steps (.one step_seq) (.pass (x := .code y) rfl (fun _ _ => .inl (by simp)) harr)⟩

/-- A sequence whose first part holds no communication. -/
theorem wpN_seq_wp {x y : Code} (h : x.wp P (Exit.then (wpN P y Q) Q) a w) : wpN P (Code.seq x y) Q a w := wpN_seq (wpN_of_wp h)

/-- The same, what follows kept from the walk's simp. -/
theorem wpN_seq_hide {x y : Code} (h : ∀ (K : Act → World → Prop) (Q' : Exit → Act → World → Prop), RowKit.Hid (∀ a w, wpN P y Q a w → K a w) → RowKit.Hid (∀ e a w, Q e a w → Q' e a w) → x.wp P (Exit.then K Q') a w) : wpN P (Code.seq x y) Q a w :=
  wpN_seq_wp (h _ _ (fun _ _ h => h) (fun _ _ _ h => h))
theorem wpN_hide {x : Code} (h : ∀ (Q' : Exit → Act → World → Prop), RowKit.Hid (∀ e a w, Q e a w → Q' e a w) → x.wp P Q' a w) : wpN P x Q a w :=
  wpN_of_wp (h _ (fun _ _ _ h => h))

theorem wpN_cond {c : Operand} {x y : Code} {t : Bool} (hc : a.eval c = .bool t) (h : wpN P (if t then x else y) Q a w) :
    wpN P (Code.cond c x y) Q a w :=
  fun b k cs hb => let ⟨e, a', w', q, r⟩ := h b k cs hb; ⟨e, a', w', q, .of_steps (.one (step_cond hc)) r⟩

theorem wpN_block {id : Nat} {c : Code} (h : wpN P c (Exit.inBlock id Q) a w) : wpN P (Code.block id c) Q a w := by
  intro b k cs hb
  obtain ⟨e, a₁, w₁, hq, harr⟩ := h b (.inBlock id :: k) cs hb
  cases e with
  | normal => exact ⟨.normal, a₁, w₁, hq, .head step_block (Steps.trans harr (.one step_inBlock))⟩
  | exit id' =>
    by_cases hid : id' = id
    · simp only [Exit.inBlock, hid, if_true] at hq
      exact ⟨.normal, a₁, w₁, hq, .head step_block (harr k (by simp [exitTo, hid]))⟩
    · simp only [Exit.inBlock, hid, if_false] at hq
      refine ⟨.exit id', a₁, w₁, hq, fun k' hk => .head step_block (harr k' ?_)⟩
      have : (id == id') = false := by simp; exact fun h => hid h.symm
      simp [exitTo, this, hk]
  | goto l => exact ⟨_, a₁, w₁, hq, fun k' hk => .head step_block (harr k' (by simp [gotoIn, hk]))⟩
  | ret => exact ⟨_, a₁, w₁, hq, .of_steps (.one step_block) harr⟩
  | panic ch => exact ⟨_, a₁, w₁, hq, .of_steps (.one step_block) harr⟩
  | outgrown => exact ⟨_, a₁, w₁, hq, .of_steps (b := b) (k := k) (cs := cs) (e := .outgrown) (.one step_block) harr⟩

theorem wpN_loop {c : Code} (I : Act → World → Prop) (μ : Act → World → Nat) (h₀ : I a w)
    (round : ∀ a w, I a w → wpN P c (Exit.then (fun a' w' => I a' w' ∧ μ a' w' < μ a w) Q) a w) : wpN P (Code.loop c) Q a w := by
  intro b k cs hb
  have key : ∀ n a w, μ a w = n → I a w →
      ∃ e a' w', Q e a' w' ∧ Arrives P (lone (b.at a (.code c :: .inLoop c :: k)) cs w) b k cs e a' w' := by
    intro n
    induction n using Nat.strongRecOn with
    | _ n ih =>
      intro a w hn hI
      obtain ⟨e, a₁, w₁, hq, harr⟩ := round a w hI b (.inLoop c :: k) cs hb
      cases e with
      | normal =>
        obtain ⟨hI₁, hlt⟩ := hq
        obtain ⟨e₂, a₂, w₂, hq₂, harr₂⟩ := ih (μ a₁ w₁) (hn ▸ hlt) a₁ w₁ rfl hI₁
        exact ⟨e₂, a₂, w₂, hq₂, .of_steps (Steps.trans harr (.one step_inLoop)) harr₂⟩
      | exit id => exact ⟨_, a₁, w₁, hq, .pass (x := .inLoop c) rfl (fun _ _ => .inl (by simp)) harr⟩
      | goto l => exact ⟨_, a₁, w₁, hq, .pass (x := .inLoop c) rfl (fun _ _ => .inl (by simp)) harr⟩
      | ret => exact ⟨_, a₁, w₁, hq, .pass (x := .inLoop c) rfl (fun _ _ => .inl (by simp)) harr⟩
      | panic ch => exact ⟨_, a₁, w₁, hq, .pass (x := .inLoop c) rfl (fun _ _ => .inl (by simp)) harr⟩
      | outgrown => exact ⟨_, a₁, w₁, hq, .pass (x := .inLoop c) rfl (fun _ _ => .inl (by simp)) harr⟩
  obtain ⟨e, a', w', hq, harr⟩ := key _ a w rfl h₀
  exact ⟨e, a', w', hq, .of_steps (.one step_loop) harr⟩

theorem wpN_region {id : Nat} {ops : Array Oper} (h : wpR P ops Q (List.range ops.size) a w) : wpN P (Code.region id ops false) Q a w :=
  fun b k cs hb => let ⟨e, a', w', q, r⟩ := h b k cs hb; ⟨e, a', w', q, .of_steps (.one step_region) r⟩

theorem wpR_nil {ops : Array Oper} (h : Q .normal a w) : wpR P ops Q [] a w := fun _ _ _ _ => ⟨.normal, a, w, h, .one step_region_end⟩

theorem wpR_value {ops : Array Oper} {i : Nat} {rest : List Nat} {o : Oper} {v : Value} {w' : World} (ho : ops[i]? = some o) (hg : o.guard = none)
    (hr : (execOp a.eval o).run P w = .ok (.value v) w') (h : wpR P ops Q rest (a.put o.dst v) w') : wpR P ops Q (i :: rest) a w := by
  intro b k cs hb
  obtain ⟨e, a', w'', hq, harr⟩ := h b k cs hb
  have hw : Region.wanted o (yielded ops a.tmps) = true := by simp [Region.wanted, hg]
  have hs := stepG_op (P := P) (b := b) (k := k) (cs := cs) (w := w) (rest := rest) ho hw
  have hfin : (b.at a (.inRegion ops (i :: rest) :: k)).finish v = b.at (a.put o.dst v) (.inRegion ops rest :: k) := by rw [Frame.finish_at, ho]; rfl
  refine ⟨e, a', w'', hq, .of_steps (.one (step_lone_go ?_)) harr⟩
  rw [hs, ← hfin]; simp [stepG.apply, hr]

/-- A send into a buffer with room. -/
theorem wpR_send {ops : Array Oper} {i : Nat} {rest : List Nat} {o : Oper} {w₁ : World} {c cap s r : Nat} {buf : Array Value} {v z : Value} {tm : Bool} (ho : ops[i]? = some o) (hg : o.guard = none)
    (hr : (execOp a.eval o).run P w = .ok (.comm #[scase c v z] true .send) w₁) (hc : w₁.heap[c]? = some (.chan cap buf false s r tm)) (hroom : buf.size < cap)
    (h : wpR P ops Q rest (a.put o.dst undef) (w₁.setChan c cap (buf.push v) false (s + 1) r tm)) : wpR P ops Q (i :: rest) a w := by
  intro b k cs hb
  obtain ⟨e, a', w'', hq, harr⟩ := h b k cs hb
  have hw : Region.wanted o (yielded ops a.tmps) = true := by simp [Region.wanted, hg]
  have hfin : (b.at a (.inRegion ops (i :: rest) :: k)).finish undef = b.at (a.put o.dst undef) (.inRegion ops rest :: k) := by rw [Frame.finish_at, ho]; rfl
  have hs := step_lone_send_room (stepG_comm (P := P) (main := true) (b := b) (k := k) (cs := cs) (w := w) (rest := rest) ho hw (by rw [hb]; decide) hr) hc hroom
  rw [hfin, ← lone_eq_solo, ← lone_eq_solo] at hs
  exact ⟨e, a', w'', hq, .of_steps (.one hs) harr⟩

/-- What a select of two receives hands over. -/
theorem res_two0 (c d : Nat) (z z' v : Value) (ok : Bool) : commResult #[rcase c z, rcase d z'] .select ((0 : Nat) : Int) v ok = .tuple #[goInt 0, .bool ok, v, z'] := by
  simp [commResult, rcase, List.zipIdx_cons]
theorem res_two1 (c d : Nat) (z z' v : Value) (ok : Bool) : commResult #[rcase c z, rcase d z'] .select ((1 : Nat) : Int) v ok = .tuple #[goInt 1, .bool ok, z, v] := by
  simp [commResult, rcase, List.zipIdx_cons]

/-- Both cases of a select of two receives are ready: the tape takes one of them. -/
theorem step_lone_sel_both {fr : Frame} {cs : List Frame} {w₁ : World} {es : Array Event} {blocking : Bool} {c capc sc rc d capd sd rd : Nat} {bc bd : Array Value} {clc cld tmc tmd : Bool} {zc zd : Value}
    (h : stepG P true (G fr cs) w = .comm (G fr cs) #[rcase c zc, rcase d zd] blocking .select w₁ es)
    (hc : w₁.heap[c]? = some (.chan capc bc clc sc rc tmc)) (hd : w₁.heap[d]? = some (.chan capd bd cld sd rd tmd)) (hbc : 0 < bc.size) (hbd : 0 < bd.size) :
    step P (solo (G fr cs) w) = .next (solo (G (fr.finish (.tuple #[goInt 0, .bool true, bc.getD 0 undef, zd])) cs) (w₁.drew.setChan c capc (bc.extract 1 bc.size) clc sc (rc + 1) tmc)) ∨
    step P (solo (G fr cs) w) = .next (solo (G (fr.finish (.tuple #[goInt 1, .bool true, zc, bd.getD 0 undef])) cs) (w₁.drew.setChan d capd (bd.extract 1 bd.size) cld sd (rd + 1) tmd)) := by
  have hpc := partners_alone (c := c) true
  have hpd := partners_alone (c := d) true
  have hc' : w₁.drew.heap[c]? = some (.chan capc bc clc sc rc tmc) := hc
  have hd' : w₁.drew.heap[d]? = some (.chan capd bd cld sd rd tmd) := hd
  rcases Nat.mod_two_eq_zero_or_one (w₁.tape w₁.drawn (.select 2)) with ht | ht
  · left
    rw [step, stepT_solo rfl]
    simp [runT, solo, G, Array.swapAt!, Array.swapAt, h, GStep.es, communicate, ways, rcase, hc, hd, hc', hpc, hbc, hbd, choose, Sem.run, Question.forced, Question.cut, bind, Sem.bind, pure, Goroutine.finishComm, World.setChan, ht, List.zipIdx_cons, commResult] at h ⊢
  · right
    rw [step, stepT_solo rfl]
    simp [runT, solo, G, Array.swapAt!, Array.swapAt, h, GStep.es, communicate, ways, rcase, hc, hd, hd', hpd, hbc, hbd, choose, Sem.run, Question.forced, Question.cut, bind, Sem.bind, pure, Goroutine.finishComm, World.setChan, ht, List.zipIdx_cons, commResult] at h ⊢

/-- A select of two receives over open channels that are not both empty: the walk goes on for each case that can proceed. -/
theorem wpR_select2 {ops : Array Oper} {i : Nat} {rest : List Nat} {o : Oper} {w₁ : World} {blocking : Bool} {c capc sc rc d capd sd rd : Nat} {bc bd : Array Value} {tmc tmd : Bool} {zc zd : Value} (ho : ops[i]? = some o) (hg : o.guard = none)
    (hr : (execOp a.eval o).run P w = .ok (.comm #[rcase c zc, rcase d zd] blocking .select) w₁)
    (hc : w₁.heap[c]? = some (.chan capc bc false sc rc tmc)) (hd : w₁.heap[d]? = some (.chan capd bd false sd rd tmd)) (hne : 0 < bc.size ∨ 0 < bd.size)
    (h0 : 0 < bc.size → ∀ w₂, w₂ = w₁ ∨ w₂ = w₁.drew → wpR P ops Q rest (a.put o.dst (.tuple #[goInt 0, .bool true, bc.getD 0 undef, zd])) (w₂.setChan c capc (bc.extract 1 bc.size) false sc (rc + 1) tmc))
    (h1 : 0 < bd.size → ∀ w₂, w₂ = w₁ ∨ w₂ = w₁.drew → wpR P ops Q rest (a.put o.dst (.tuple #[goInt 1, .bool true, zc, bd.getD 0 undef])) (w₂.setChan d capd (bd.extract 1 bd.size) false sd (rd + 1) tmd)) :
    wpR P ops Q (i :: rest) a w := by
  intro b k cs hb
  have hw : Region.wanted o (yielded ops a.tmps) = true := by simp [Region.wanted, hg]
  have hfin : ∀ v, (b.at a (.inRegion ops (i :: rest) :: k)).finish v = b.at (a.put o.dst v) (.inRegion ops rest :: k) := by intro v; rw [Frame.finish_at, ho]; rfl
  have hcomm := stepG_comm (P := P) (main := true) (b := b) (k := k) (cs := cs) (w := w) (rest := rest) ho hw (by rw [hb]; decide) hr
  by_cases hbc : 0 < bc.size
  · by_cases hbd : 0 < bd.size
    · rcases step_lone_sel_both hcomm hc hd hbc hbd with hs | hs
      · obtain ⟨e, a', w'', hq, harr⟩ := h0 hbc _ (.inr rfl) b k cs hb
        rw [hfin, ← lone_eq_solo, ← lone_eq_solo] at hs
        exact ⟨e, a', w'', hq, .of_steps (.one hs) harr⟩
      · obtain ⟨e, a', w'', hq, harr⟩ := h1 hbd _ (.inr rfl) b k cs hb
        rw [hfin, ← lone_eq_solo, ← lone_eq_solo] at hs
        exact ⟨e, a', w'', hq, .of_steps (.one hs) harr⟩
    · have hbd0 : bd = #[] := by rcases bd with ⟨l⟩; cases l <;> simp_all
      subst hbd0
      have hs := step_lone_sel_recv_buf (k := 0) hcomm rfl (fun m c' hm hc' => by
        rcases m with _ | _ | m
        · exact absurd rfl hm
        · simp only [List.getElem?_toArray, List.getElem?_cons_succ, List.getElem?_cons_zero, Option.some.injEq] at hc'
          subst hc'
          exact noWay_recv hd
        · simp at hc') hc hbc
      rw [res_two0] at hs
      obtain ⟨e, a', w'', hq, harr⟩ := h0 hbc _ (.inl rfl) b k cs hb
      rw [hfin, ← lone_eq_solo, ← lone_eq_solo] at hs
      exact ⟨e, a', w'', hq, .of_steps (.one hs) harr⟩
  · have hbd : 0 < bd.size := hne.resolve_left hbc
    have hbc0 : bc = #[] := by rcases bc with ⟨l⟩; cases l <;> simp_all
    subst hbc0
    have hs := step_lone_sel_recv_buf (k := 1) hcomm rfl (fun m c' hm hc' => by
        rcases m with _ | _ | m
        · simp only [List.getElem?_toArray, List.getElem?_cons_zero, Option.some.injEq] at hc'
          subst hc'
          exact noWay_recv hc
        · exact absurd rfl hm
        · simp at hc') hd hbd
    rw [res_two1] at hs
    obtain ⟨e, a', w'', hq, harr⟩ := h1 hbd _ (.inl rfl) b k cs hb
    rw [hfin, ← lone_eq_solo, ← lone_eq_solo] at hs
    exact ⟨e, a', w'', hq, .of_steps (.one hs) harr⟩
end

theorem calls_of_wpN {P : Program} {f : FuncId} {fn : Func} {c : Code} {args : Array Value} {w : World} {R : Ending → World → Prop}
    (hf : P.funcs[f]? = some fn) (hb : fn.body = some c)
    (h : wpN P c (bodyPost P fn R) { tmps := args ++ Array.replicate (fn.ntmps - args.size) undef, defers := [] } w) :
    Calls P f args w R := by
  intro cs
  let b : Frame := { (default : Frame) with fn := f, kind := .normal }
  have henter : Frame.enter P f args .normal =
      b.at { tmps := args ++ Array.replicate (fn.ntmps - args.size) undef, defers := [] } [.code c] := by
    simp [Frame.enter, Frame.at, hf, hb, b]
  obtain ⟨e, a', w', hq, harr⟩ := h b [] cs rfl
  rw [← henter] at harr
  cases e with
  | normal =>
    obtain ⟨hd, v, hr, hR⟩ := hq
    exact ⟨.returned v, w', _, hR, Steps.trans harr (.one step_end), rfl, rfl, hd, rfl, fn, hf, hr⟩
  | ret =>
    obtain ⟨hd, v, hr, hR⟩ := hq
    obtain ⟨todo, hs⟩ := harr
    exact ⟨.returned v, w', _, hR, hs, rfl, rfl, hd, rfl, fn, hf, hr⟩
  | panic chain =>
    obtain ⟨hd, hR⟩ := hq
    obtain ⟨todo, hs⟩ := harr
    exact ⟨.panicked chain, w', _, hR, hs, rfl, rfl, hd, fn, hf⟩
  | exit id => exact hq.elim
  | goto l => exact hq.elim
  | outgrown => exact ⟨.outgrown, w', b, hq, harr.resolve_left (by simp [b]), rfl, trivial⟩

end Go.CommN
