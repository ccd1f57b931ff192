import Derived.Test.Qxb6500357aGreatIxPut
import Derived.Test.Qxb6500357aGreatDrop
import Derived.Test.Qxb6500357aGreatIxPut2
import Derived.BigRegion
namespace Go.Proofs.Qxb6500357aGreat
open Go.RowKit Go.Tag
variable {st0 : Nat}
set_option linter.unusedVariables false
set_option linter.unusedSimpArgs false
set_option maxRecDepth 100000
attribute [local simp] str_size
attribute [local go_sem] str_size

/-- The tally's sweep, behind some rounds. -/
def ByRel (w : World) (H : Has) (grp : Int → Int) (g : Int) (bb r : Nat) (wr : World) : Prop :=
  ∃ left cnt, RangeFn wr bb r kPair (fByMix H grp g left) left cnt ∧ Fr (fun k => k = bb) w wr

theorem sw_end {w wr wt : World} {Fi : Nat → Prop} {x b bi bb : Nat} {H : Has} {kp : Int → Bool} {grp : Int → Int} {q : Word → Nat} {r : Nat} {left : Word → Bool} {cnt : Nat} (hx : IndexAt w Fi x b bi bb H grp q) (h : SwAt w Fi x b bi bb H kp grp q r left cnt wr) (hall : ∀ u, left u = false)
    (hm : MapFn wt bb kPair (fBy (cutH H kp) grp)) (f : Fr (fun k => k = bb) wr wt) : IndexAt wt Fi x b bi bb (cutH H kp) grp q ∧ Fr Fi w wt := by
  have e := mixW_end H kp left hall
  obtain ⟨m1, m2, m3⟩ := hx.ne_root
  obtain ⟨n1, n2⟩ := hx.ne
  obtain ⟨o1, o2, o3, o4⟩ := hx.own
  have hc : ∀ u, cntW (cutH H kp) u ≠ 0 → cntW H u ≠ 0 := fun u hu => by rw [← e] at hu; exact cntW_mix hu
  have hr := h.rng.map
  have hs := h.set
  rw [e] at hr hs
  refine ⟨⟨f.heap h.root (Ne.symm m2), hr.fr f n1, fun u hu => (hs u hu).fr f (n2 u (hc u hu)).2, fun u v hu hv => hx.inj u v (hc u hu) (hc v hv), hm, ⟨n1, fun u hu => n2 u (hc u hu)⟩, fun u i hu => hx.dom u i (by simp [cutH] at hu; exact hu.1), o1, o2, o3, fun u hu => o4 u (hc u hu)⟩, ?_⟩
  exact h.fr.trans' f (fun i _ e => by subst e; exact o3)

theorem swIn_stay {wA wr w1 w2 : World} {h kp : Int → Bool} {qu pb r n : Nat} {left : Int → Bool} {cnt : Nat} {k : Int} (hk : kp k = true) (hn : n = cntI (mixI h kp left)) (hp : wr.heap[pb]? = some (.cells #[.map (some qu), .int .i64 (n : Int)] 109)) (hF : Fr (fun k => k = qu) wA wr) (hnew : wA.heap.size ≤ r) (hpr : pb ≠ r)
    (hR1 : RangeFn w1 qu r kInt (setB (mixI h kp left)) (fun j => left j && !decide (j = k)) (cnt - 1)) (hF1 : Fr (fun i => i = r) wr w1) (f2 : Fr No w1 w2) : SwIn wA h kp qu pb r n w2 := by
  refine ⟨fun j => left j && !decide (j = k), cnt - 1, ?_, ?_, ?_, ?_⟩
  · rw [mixI_stay _ _ _ _ hk]; exact hR1.fr f2 (fun h => h) (fun h => h)
  · rw [mixI_stay _ _ _ _ hk]; exact hn
  · exact f2.heap (hF1.heap hp hpr) (fun h => h)
  · exact (hF.trans' hF1 (fun i hi e => by omega)).trans f2.any
theorem swIn_gone {wA wr w1 w2 w3 : World} {h kp : Int → Bool} {qu pb r n : Nat} {left : Int → Bool} {cnt : Nat} {k : Int} (hid : 1 ≤ k ∧ k ≤ 9) (hk : kp k = false) (hh : h k = true) (hl : left k = true) (hn : n = cntI (mixI h kp left)) (hp : wr.heap[pb]? = some (.cells #[.map (some qu), .int .i64 (n : Int)] 109)) (hF : Fr (fun k => k = qu) wA wr) (hnew : wA.heap.size ≤ r) (hpr : pb ≠ r) (hpn : wA.heap.size ≤ pb)
    (hF1 : Fr (fun i => i = r) wr w1) (f2 : Fr No w1 w2)
    (hR3 : RangeFn w3 qu r kInt (upd (setB (mixI h kp left)) k none) (fun j => left j && !decide (j = k)) (cnt - 1)) (t3 : Turned qu w2 w3) (hpq : pb ≠ qu) :
    SwIn wA h kp qu pb r (n - 1) (w3.setCell ⟨pb, 1, none⟩ (.int .i64 ((n : Int) - 1))) ∧ 1 ≤ n := by
  have hc := cntI_gone h kp left k hid hk hh hl
  have hn1 : 1 ≤ n := by omega
  have hp3 : w3.heap[pb]? = some (.cells #[.map (some qu), .int .i64 (n : Int)] 109) := by
    rw [t3.other hpq]; exact f2.heap (hF1.heap hp hpr) (fun h => h)
  refine ⟨⟨fun j => left j && !decide (j = k), cnt - 1, ?_, by omega, ?_, ?_⟩, hn1⟩
  · rw [← setB_gone h kp left k hk]
    exact hR3.fr ((Fr.refl (fun i => i = pb) _).setCell (.inr rfl) _) (Ne.symm hpq) (Ne.symm hpr)
  · rw [Go.Tag.heap_setCell_same hp3]
    have : ((n - 1 : Nat) : Int) = (n : Int) - 1 := by omega
    rw [this]; rfl
  · exact (((hF.trans' hF1 (fun i hi e => by omega)).trans f2.any).trans t3.fr).setCell (.inl hpn) _

set_option maxHeartbeats 1000000 in
theorem ixDrop_any (x : Nat) (F : Nat → Prop) (s : St) (B : Int) (g : Int) (w : World) (h : Both st0 w F x s) (hf : Fine s B) : Calls Tryz.prog 52 #[.pointer (some ⟨x, 0, none⟩), .int .i64 g] w (TurnPost st0 w F x (s.cnt g) (s.drop g)) := by
  obtain ⟨b, bd, br, bg, p, bi, bb, q, Fs, Fi, hb, hF⟩ := h
  have hr0 : w.cell? ⟨x, 0, none⟩ = some (.pointer (some ⟨b, 0, none⟩)) := by rw [cell_of_heap hb.ix.root]; rfl
  have hxw := hb.ix.lt.1
  have HD : Hid (Calls Tryz.prog 85 #[.pointer (some ⟨b, 0, none⟩), .int .i64 g] w fun e w' => e = .returned (.int .i64 (s.cnt g)) ∧ StoreAt w' Fs b (s.drop g) bd br bg p ∧ Fr Fs w w') := storeDrop_any b bd br bg p Fs s B g w hb.st hf
  have HI : Hid (∀ w1, Fr Fs w w1 → IndexAt w1 Fi x b bi bb (hasOf s) s.groupOf q) := fun w1 f => hb.ix.fr f (fun k hk e => hb.dis k e hk)
  have HF : Hid (∀ w1 w3, Fr Fs w w1 → StoreAt w1 Fs b (s.drop g) bd br bg p → IndexAt w3 Fi x b bi bb (hasOf (s.drop g)) (s.drop g).groupOf q → Fr Fi w1 w3 → TurnPost st0 w F x (s.cnt g) (s.drop g) (.returned (.int .i64 (s.cnt g))) w3) := by
    intro w1 w3 f1 h1 h3 f3
    have f : Fr F w w3 := (f1.mono (fun k _ hk => hF k (.inl hk))).trans' f3 (fun k _ hk => hF k (.inr hk))
    exact ⟨rfl, ⟨b, bd, br, bg, p, bi, bb, q, Fs, Fi, ⟨h1.fr f3 (fun k hk e => hb.dis k hk e), h3, hb.dis, fun k hk => Nat.lt_of_lt_of_le (hb.ls k hk) f.size, fun k hk => Nat.lt_of_lt_of_le (hb.li k hk) f.size, hb.eb⟩, fun k hk => .inl (hF k hk)⟩, f⟩
  by_cases hc : s.cnt g = 0
  · have hz : ((s.cnt g : Int) == 0) = true := by simp [hc]
    have HZ : Hid (∀ w1, StoreAt w1 Fs b (s.drop g) bd br bg p → Fr Fs w w1 → TurnPost st0 w F x (s.cnt g) (s.drop g) (.returned (.int .i64 0)) w1) := fun w1 h1 f1 => by
      have := HF.out w1 w1 f1 h1 (by rw [drop_none hf hc]; exact HI.out w1 f1) (Fr.refl _ _)
      rw [hc] at this ⊢; exact this
    clear hb hF hf hc
    generalize (s.cnt g : Int) = n at *
    go_enter Tryz.func52, Tryz.ntmps52
    go_wp2_with (go_at_call 85; refine HD.out.mono ?_; rintro e w1 ⟨rfl, h1, f1⟩
                 have HZ1 : Hid (TurnPost st0 w F x n (s.drop g) (.returned (.int .i64 0)) w1) := HZ.out w1 h1 f1
                 clear h1 f1)
    go_ret
    exact HZ1.out
  · have hz : ((s.cnt g : Int) == 0) = false := by simp [hc]
    have HG : Hid (∀ w1 w2, StoreAt w1 Fs b (s.drop g) bd br bg p → Fr Fi w1 w2 → ∀ id, Calls Tryz.prog 66 #[.pointer (some ⟨b, 0, none⟩), .int .i64 id] w2 fun e w' => ∃ gi gg gt, e = .returned (.tuple #[.agg #[.int .i64 gi, .int .i64 gg, .string (str gt)], .int .i64 ((s.drop g).getErr id)]) ∧ Fr No w2 w') := by
      intro w1 w2 h1 f2 id
      obtain ⟨gi, gg, gt, hgd⟩ := getDoc_agg (s.drop g) id
      exact (get_any b bd br bg p Fs (s.drop g) B id w2 (h1.fr f2 (fun k hk e => hb.dis k hk e)) (hf.drop g)).mono fun e w' ⟨h1, h2⟩ => ⟨gi, gg, gt, by rw [h1, hgd], h2⟩
    have HLS : Hid (∀ k, w.heap.size ≤ k → ¬ Fi k) := fun k hk e => by have := hb.li k e; omega
    have HE : Hid (∀ w1 w3, Fr Fs w w1 → StoreAt w1 Fs b (s.drop g) bd br bg p → IndexAt w3 Fi x b bi bb (cutH (hasOf s) (kept s g)) s.groupOf q ∧ Fr Fi w1 w3 → TurnPost st0 w F x (s.cnt g) (s.drop g) (.returned (.int .i64 (s.cnt g))) w3) := by
      intro w1 w3 f1 h1 ⟨h3, f3⟩
      rw [cut_hasOf] at h3
      exact HF.out w1 w3 f1 h1 (h3.regrp (drop_grp s g)) f3
    have HK : Hid (∀ u i, hasOf s u i = true → kept s g i = !decide (s.groupOf i = g)) := kept_grp s g
    have HKE : Hid (∀ i, 1 ≤ i ∧ i ≤ 9 → ((s.drop g).getErr i != 0) = !(kept s g i)) := fun i hi => by
      unfold kept
      cases hd : (s.drop g).docs i with
      | none => rw [getErr_none hi hd]; rfl
      | some d => rw [getErr_some hi hd]; rfl
    clear hb hF hf hc HF
    generalize hasOf s = H at *
    generalize s.groupOf = grp at *
    generalize kept s g = kp at *
    generalize (s.cnt g : Int) = n at *
    go_enter Tryz.func52, Tryz.ntmps52
    go_wp2_with (go_at_call 85; refine HD.out.mono ?_; rintro e w1 ⟨rfl, h1, f1⟩
                 have HS1 : Hid (StoreAt w1 Fs b (s.drop g) bd br bg p ∧ Fr Fs w w1) := ⟨h1, f1⟩
                 have hx1 := HI.out w1 f1
                 have hsz1 := f1.size
                 obtain ⟨o, cnt0, hrg, hR0⟩ := hx1.inv.range0 (P := Tryz.prog) (t := 71) keyStr Tryz.underlying71
                 have HX1 : Hid (IndexAt w1 Fi x b bi bb H grp q) := hx1
                 have hcx1 : w1.cell? ⟨x, 1, none⟩ = some (.map (some bi)) := by rw [cell_of_heap hx1.root]; rfl
                 have hxw1 := hx1.lt.1
                 have HA0 : Hid (∃ left cnt, SwAt w1 Fi x b bi bb H kp grp q w1.heap.size left cnt (w1.alloc o)) := ⟨_, _, swAt_start hx1 hR0⟩
                 clear hx1 hR0 h1 f1)
    go_loopw [] (fun wr => ∃ left cnt, SwAt w1 Fi x b bi bb H kp grp q w1.heap.size left cnt wr) (fun wr => toGo bi w1.heap.size wr)
    case atStart => exact HA0.out
    case round =>
      obtain ⟨wo, hwo⟩ : ∃ wo, wo = wr := ⟨_, rfl⟩
      subst hwo
      obtain ⟨left, cnt, hS⟩ := hrel
      have hcr0 : wo.cell? ⟨x, 0, none⟩ = some (.pointer (some ⟨b, 0, none⟩)) := by rw [cell_of_heap hS.root]; rfl
      have hcr1 : wo.cell? ⟨x, 1, none⟩ = some (.map (some bi)) := by rw [cell_of_heap hS.root]; rfl
      have hcr2 : wo.cell? ⟨x, 2, none⟩ = some (.map (some bb)) := by rw [cell_of_heap hS.root]; rfl
      have hxr := lt_of_heap hS.root
      have HSW : Hid (SwAt w1 Fi x b bi bb H kp grp q w1.heap.size left cnt wo) := hS
      rcases hS.rng.next (P := Tryz.prog) keyStr 0 with ⟨h0, hall, hnx⟩ | ⟨u, v, wn, hlk, hfk, hnx, hpos, hR1, hF1, hsz, hen⟩
      · obtain ⟨o3, cnt3, hrg3, hR3⟩ := hS.by_.range0 (P := Tryz.prog) (t := 72) keyPair Tryz.underlying72
        have HB0 : Hid (ByRel wo H grp g bb wo.heap.size (wo.alloc o3)) := ⟨_, _, by rw [fByMix_start]; exact hR3, (Fr.refl _ _).alloc _⟩
        have HALL : Hid (∀ u, left u = false) := hall
        clear hR3 hS hall h0
        go_wp2
        go_loopw [] (fun wt => ByRel wo H grp g bb wo.heap.size wt) (fun wt => toGo bb wo.heap.size wt)
        case atStart => exact HB0.out
        case round =>
          obtain ⟨left3, cnt4, hR, hF3⟩ := hrel
          have hne : x ≠ bb := Ne.symm HX1.out.ne_root.2.1
          have hct2 := hF3.cell hcr2 hne
          have hxt : x < wr.heap.size := Nat.lt_of_lt_of_le hxr hF3.size
          rcases hR.next (P := Tryz.prog) keyPair 0 with ⟨h0, hall3, hnx3⟩ | ⟨k, v, wn, hlk, hfk, hnx3, hpos, hR1, hF4, hsz, hen⟩
          · have HZ : Hid (TurnPost st0 w F x n (s.drop g) (.returned (.int .i64 n)) wr) :=
              HE.out w1 wr HS1.out.2 HS1.out.1 (sw_end HX1.out HSW.out HALL.out (by rw [← fByMix_end H grp g kp HK.out left3 hall3]; exact hR.map) hF3)
            clear hR hF3 hall3
            go_wp2
            go_ret
            exact HZ.out
          · obtain ⟨gk, u⟩ := k
            simp only [kPair] at hnx3 hen
            have hF5 : Fr (fun k => k = bb) wo wn := hF3.trans' hF4 (fun i hi e => by omega)
            have hcn2 := hF5.cell hcr2 hne
            have hxn : x < wn.heap.size := Nat.lt_of_lt_of_le hxr hF5.size
            by_cases hgk : gk = g
            · have hgb : (gk == g) = true := by simp [hgk]
              have fA : Fr No wn (wn.alloc (.cells #[.int .i64 gk, .string (str u)] 78)).drew := ((Fr.refl _ _).alloc _).drew
              obtain ⟨w4, hdl, hR4, ht4⟩ := (hR1.fr fA (fun h => h) (fun h => h)).delete' (P := Tryz.prog) (t := 72) keyPair Tryz.underlying72 (k := (gk, u)) (by simp)
              simp only [kPair] at hdl
              have HT : Hid (ByRel wo H grp g bb wo.heap.size w4 ∧ toGo bb wo.heap.size w4 < toGo bb wo.heap.size wr) := by
                refine ⟨⟨_, _, by rw [← fByMix_gone H grp g left3 (gk, u) hgk]; exact hR4, (hF5.trans fA.any).trans ht4.fr⟩, ?_⟩
                rw [hR4.toGo, hR.toGo]; omega
              clear hR4 ht4 hR1 hR hF3 hF4 hF5 hgk hfk fA
              go_wp2
              go_region
              go_wp2
              go_roundw
              case rel => exact HT.out.1
              case measure => exact HT.out.2
            · have hgb : (gk == g) = false := by simp [hgk]
              have HT : Hid (∀ o, ByRel wo H grp g bb wo.heap.size (wn.alloc o) ∧ toGo bb wo.heap.size (wn.alloc o) < toGo bb wo.heap.size wr) := fun o => by
                have hR6 := hR1.fr ((Fr.refl No wn).alloc o) (fun h => h) (fun h => h)
                refine ⟨⟨_, _, by rw [← fByMix_stay H grp g left3 (gk, u) hgk]; exact hR6, hF5.alloc _⟩, ?_⟩
                rw [hR6.toGo, hR.toGo]; omega
              clear hR1 hR hF3 hF4 hF5 hgk hfk
              go_wp2
              go_roundw
              case rel => exact (HT.out _).1
              case measure => exact (HT.out _).2
      · have hcw : cntW H u ≠ 0 ∧ v = postV (q u) (cntW H u) := by
          have e1 := mixW_left H kp left u hlk
          unfold fInv cntW at hfk
          rw [e1] at hfk
          split at hfk
          · cases hfk
          · next hh => exact ⟨hh, (Option.some.inj hfk).symm⟩
        obtain ⟨hcu, rfl⟩ := hcw
        obtain ⟨wn', hwn⟩ : ∃ wn', wn' = wn := ⟨_, rfl⟩
        subst hwn
        have hnew := hS.new
        obtain ⟨l1, l2, l3, l4⟩ := HX1.out.lt
        have hqu := l4 u hcu
        have hwo := hS.fr.size
        have hsetn : MapFn wn' (q u) kInt (setB (H u)) := by
          have := hS.set u (by unfold cntW; rw [mixW_left H kp left u hlk]; exact hcu)
          rw [mixW_left H kp left u hlk] at this
          exact this.fr hF1 (by omega)
        have hfn : Fr Fi w1 wn' := hS.fr.trans' hF1 (fun i hi e => by omega)
        have hrn : wn'.heap[x]? = some (.cells #[.pointer (some ⟨b, 0, none⟩), .map (some bi), .map (some bb)] 74) := hF1.heap hS.root (by omega)
        have fA : Fr No wn' (wn'.alloc (.cells #[.map (some (q u)), .int .i64 (cntW H u : Nat)] 109)) := (Fr.refl _ _).alloc _
        obtain ⟨o2, cnt2, hrg2, hR2⟩ := (hsetn.fr fA (fun h => h)).range0 (P := Tryz.prog) (t := 93) keyInt Tryz.underlying93
        simp only [World.size_alloc] at hrg2 hR2
        have HA1 : Hid (∃ n : Nat, SwIn wn' (H u) kp (q u) wn'.heap.size (wn'.heap.size + 1) n ((wn'.alloc (.cells #[.map (some (q u)), .int .i64 (cntW H u : Nat)] 109)).alloc o2)) := by
          refine ⟨cntW H u, _, _, by rw [mixI_start]; exact hR2, by rw [mixI_start]; rfl, ?_, ((Fr.refl _ _).alloc _).alloc _⟩
          rw [Below.heap_alloc _ _ _ (by simp)]; exact heap_alloc_new _ _
        simp only [kStr, postV] at hnx hen
        have HST : Hid (left u = true ∧ Fr (fun i => i = w1.heap.size) wo wn' ∧ wo.heap.size ≤ wn'.heap.size ∧ RangeFn wn' bi w1.heap.size kStr (fInv (mixW H kp left) q) (fun j => left j && !decide (j = u)) (cnt - 1) ∧ cntW H u ≠ 0 ∧ 0 < cnt ∧ toGo bi w1.heap.size wo = cnt) := ⟨hlk, hF1, hF1.size, hR1, hcu, hpos, hS.rng.toGo⟩
        have HFN : Hid (Fr Fi w1 wn' ∧ Fi (q u) ∧ q u < wn'.heap.size) := ⟨hfn, HX1.out.own.2.2.2 u hcu, by omega⟩
        have hqx : x ≠ q u := Ne.symm (HX1.out.ne_root.2.2 u hcu)
        have hc9 : cntW H u ≤ 9 := cntW_le H u
        have HRN : Hid (wn'.heap[x]? = some (.cells #[.pointer (some ⟨b, 0, none⟩), .map (some bi), .map (some bb)] 74)) := hrn
        clear hR2 hS hR1 hF1 hfk hsetn hfn fA hlk hcu hrn hsz
        go_wp2
        go_loopw [] (fun wi => ∃ n : Nat, SwIn wn' (H u) kp (q u) wn'.heap.size (wn'.heap.size + 1) n wi) (fun wi => toGo (q u) (wn'.heap.size + 1) wi)
        case atStart => exact HA1.out
        case round =>
          obtain ⟨m, left2, cnt2', hRi, hm, hpb, hFi⟩ := hrel
          have hri : wr.heap[x]? = some (.cells #[.pointer (some ⟨b, 0, none⟩), .map (some bi), .map (some bb)] 74) := hFi.heap HRN.out hqx
          have hxi := lt_of_heap hri
          have hci0 : wr.cell? ⟨x, 0, none⟩ = some (.pointer (some ⟨b, 0, none⟩)) := by rw [cell_of_heap hri]; rfl
          have hci1 : wr.cell? ⟨x, 1, none⟩ = some (.map (some bi)) := by rw [cell_of_heap hri]; rfl
          have hm9 : m ≤ 9 := by rw [hm]; exact cntI_le _
          have hpi := lt_of_heap hpb
          rcases hRi.next (P := Tryz.prog) keyInt 0 with ⟨h0, hall2, hnx2⟩ | ⟨k, v, w2, hlk2, hfk2, hnx2, hpos2, hR12, hF12, hsz2, hen2⟩
          · have hmi := mixI_end (H u) kp left2 hall2
            rw [hmi] at hm
            have HO : SwOut wn' (H u) kp (q u) wn'.heap.size wr := ⟨by rw [← hmi]; exact hRi.map, by rw [← hm]; exact hpb, hFi⟩
            have hp0 := cell_of_heap hpb 0
            have hp1 := cell_of_heap hpb 1
            simp only [List.getElem?_toArray, List.getElem?_cons_zero, List.getElem?_cons_succ] at hp0 hp1
            obtain ⟨s1, s2, s3, s4, s5, s6, s7⟩ := HST.out
            have hbq : bi ≠ q u := Ne.symm (HX1.out.ne.2 u s5).1
            have hrq : w1.heap.size ≠ q u := by omega
            have hRr : RangeFn wr bi w1.heap.size kStr (fInv (mixW H kp left) q) (fun j => left j && !decide (j = u)) (cnt - 1) := s4.fr hFi hbq hrq
            by_cases hz0 : m = 0
            · obtain ⟨w5, hdl, hR5, ht5⟩ := hRr.delete' (P := Tryz.prog) (t := 71) keyStr Tryz.underlying71 (k := u) (by simp)
              simp only [kStr] at hdl
              have HT : Hid ((∃ left cnt, SwAt w1 Fi x b bi bb H kp grp q w1.heap.size left cnt w5) ∧ toGo bi w1.heap.size w5 < toGo bi w1.heap.size wo) := by
                refine ⟨⟨_, _, swAt_step HX1.out HSW.out s1 s2 s3 s4 HO s5 ?_ ht5⟩, ?_⟩
                · rw [if_pos (by omega)]; exact hR5
                · rw [hR5.toGo, s7]; omega
              have hzb : ((m : Int) == 0) = true := by simp [hz0]
              clear hR5 ht5 hRr s1 s2 s3 s4 s5 s6 s7 HO hRi hpb hFi hm hmi hall2
              go_wp2
              go_roundw
              case rel => exact HT.out.1
              case measure => exact HT.out.2
            · have fD : Fr No wr wr.drew := (Fr.refl _ _).drew
              obtain ⟨w5, hup, hR5, ht5⟩ := (hRr.fr fD (fun h => h) (fun h => h)).update' (P := Tryz.prog) (t := 71) keyStr Tryz.underlying71 (k := u) (by
                unfold fInv cntW; rw [mixW_left H kp left u s1]; unfold cntW at s5; rw [if_neg s5]; rfl) (postV (q u) m)
              simp only [kStr, postV] at hup
              have HT : Hid ((∃ left cnt, SwAt w1 Fi x b bi bb H kp grp q w1.heap.size left cnt w5) ∧ toGo bi w1.heap.size w5 < toGo bi w1.heap.size wo) := by
                have htt : Turned bi wr w5 := ⟨fD.any.trans ht5.fr, ht5.size⟩
                refine ⟨⟨_, _, swAt_step HX1.out HSW.out s1 s2 s3 s4 HO s5 ?_ htt⟩, ?_⟩
                · rw [if_neg (by omega), ← hm]; exact hR5
                · rw [hR5.toGo, s7]; omega
              have hzb : ((m : Int) == 0) = false := by simp [hz0]
              clear hR5 ht5 hRr s1 s2 s3 s4 s5 s6 s7 HO hRi hpb hFi hm hmi hall2 fD
              go_wp2
              go_region
              go_wp2
              go_roundw
              case rel => exact HT.out.1
              case measure => exact HT.out.2
          · have hHk : H u k = true ∧ v = .bool true := by
              unfold setB at hfk2
              split at hfk2
              · next hh => simp only [mixI, Bool.and_eq_true] at hh; exact ⟨hh.1, (Option.some.inj hfk2).symm⟩
              · cases hfk2
            obtain ⟨hHk, rfl⟩ := hHk
            have hdom := HX1.out.dom u k hHk
            simp only [kInt] at hnx2 hen2
            have hke := HKE.out k hdom
            have hci2 := (hF12.cell (S := fun i => i = wn'.heap.size + 1) hci0 (by have := lt_of_heap HRN.out; omega))
            have hG := HG.out w1 w2 HS1.out.1 ((HFN.out.1.trans' hFi (fun i _ e => by rw [e]; exact HFN.out.2.1)).trans' hF12 (fun i hi e => by have := hFi.size; have := HFN.out.1.size; omega)) k
            have HGK : Hid (Calls Tryz.prog 66 #[.pointer (some ⟨b, 0, none⟩), .int .i64 k] w2 fun e w' => ∃ gi gg gt, e = .returned (.tuple #[.agg #[.int .i64 gi, .int .i64 gg, .string (str gt)], .int .i64 ((s.drop g).getErr k)]) ∧ Fr No w2 w') := hG
            have hx2 : x < w2.heap.size := by rw [hsz2]; exact hxi
            clear hsz2
            cases hkk : kp k with
            | true =>
              rw [hkk] at hke
              simp only [Bool.not_true] at hke
              have HT : Hid (∀ w3, Fr No w2 w3 → (∃ n : Nat, SwIn wn' (H u) kp (q u) wn'.heap.size (wn'.heap.size + 1) n w3) ∧ toGo (q u) (wn'.heap.size + 1) w3 < toGo (q u) (wn'.heap.size + 1) wr) := fun w3 f3 => by
                refine ⟨⟨m, swIn_stay hkk hm hpb hFi (by omega) (by omega) hR12 hF12 f3⟩, ?_⟩
                rw [(hR12.fr f3 (fun h => h) (fun h => h)).toGo, hRi.toGo]; omega
              clear hR12 hF12 hRi hFi hm hpb hHk hfk2 hG
              go_wp2_with (go_at_call 66; refine HGK.out.mono ?_; rintro e w3 ⟨gi, gg, gt, rfl, f3⟩)
              go_roundw
              case rel => exact (HT.out _ f3).1
              case measure => exact (HT.out _ f3).2
            | false =>
              rw [hkk] at hke
              simp only [Bool.not_false] at hke
              have HT : Hid (∀ w3, Fr No w2 w3 → ∃ w4, (∀ kt' ty, (Builtin.delete_ #[93, kt'] ty #[.map (some (q u)), .int .i64 k]).run Tryz.prog w3 = .ok (.tuple #[]) w4) ∧ w3.cell? ⟨wn'.heap.size, 0, none⟩ = some (.map (some (q u))) ∧ wn'.heap.size < w3.heap.size ∧ w4.cell? ⟨wn'.heap.size, 1, none⟩ = some (.int .i64 (m : Int)) ∧ w4.frozen? ⟨wn'.heap.size, 1, none⟩ = false ∧ wn'.heap.size < w4.heap.size ∧ 1 ≤ m ∧
                  Hid ((∃ n : Nat, SwIn wn' (H u) kp (q u) wn'.heap.size (wn'.heap.size + 1) n (w4.setCell ⟨wn'.heap.size, 1, none⟩ (.int .i64 ((m : Int) - 1)))) ∧ toGo (q u) (wn'.heap.size + 1) (w4.setCell ⟨wn'.heap.size, 1, none⟩ (.int .i64 ((m : Int) - 1))) < toGo (q u) (wn'.heap.size + 1) wr)) := fun w3 f3 => by
                have hq := HFN.out.2.2
                obtain ⟨w4, hdl, hR4, ht4⟩ := (hR12.fr f3 (fun h => h) (fun h => h)).delete' (P := Tryz.prog) (t := 93) keyInt Tryz.underlying93 (k := k) (by simp)
                have hp3 := f3.heap (hF12.heap hpb (by omega)) (fun h => h)
                have hp4 := (ht4.other (k := wn'.heap.size) (by omega)).trans hp3
                obtain ⟨g1, g2⟩ := swIn_gone hdom hkk hHk hlk2 hm hpb hFi (by omega) (by omega) (Nat.le_refl _) hF12 f3 hR4 ht4 (by omega)
                refine ⟨w4, hdl, by rw [cell_of_heap hp3]; rfl, lt_of_heap hp3, by rw [cell_of_heap hp4]; rfl, frozen_of_heap hp4 1, lt_of_heap hp4, g2, ⟨_, g1⟩, ?_⟩
                obtain ⟨_, _, gR, _⟩ := g1
                have hR4' := hR4.fr ((Fr.refl (fun i => i = wn'.heap.size) w4).setCell (p := ⟨wn'.heap.size, 1, none⟩) (.inr rfl) (.int .i64 ((m : Int) - 1))) (by omega) (by omega)
                rw [hR4'.toGo, hRi.toGo]; omega
              clear hR12 hF12 hRi hFi hm hpb hHk hfk2 hG
              go_wp2_with (go_at_call 66; refine HGK.out.mono ?_; rintro e w3 ⟨gi, gg, gt, rfl, f3⟩
                           obtain ⟨w4, d1, d2, d3, d4, d5, d6, d7, d8⟩ := HT.out w3 f3
                           have hwc : IntKind.i64.wrap ((m : Int) - 1) = (m : Int) - 1 := wrap_i64 _ (by omega) (by omega))
              go_roundw
              case rel => exact d8.out.1
              case measure => exact d8.out.2
end Go.Proofs.Qxb6500357aGreat
