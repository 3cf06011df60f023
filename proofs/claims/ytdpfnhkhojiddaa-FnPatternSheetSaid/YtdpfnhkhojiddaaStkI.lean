/- A cell of a stack, the crease between two, the corner of four: the program's. No condition but sizes. -/
import Derived.Test.YtdpfnhkhojiddaaStkH
namespace Go.Proofs.Ytdpfnhkhojiddaa
open Go.RowKit

theorem levelT_some {S : List Cl} {r c k : Nat} (hk : k < S.length) (h1 : S[k].1 = r) (h2 : S[k].2.1 = c) (hb : ∀ j, j < k → ∀ x, S[j]? = some x → ¬ (x.1 = r ∧ x.2.1 = c)) : levelT S r c = some k := by
  unfold levelT
  rw [List.findIdx?_eq_some_iff_getElem]
  refine ⟨hk, by simp [h1, h2], fun j hj => ?_⟩
  have := hb j hj _ (List.getElem?_eq_getElem (by omega))
  simp only [Bool.and_eq_true, decide_eq_true_eq]
  exact this
theorem levelT_none {S : List Cl} {r c : Nat} (hb : ∀ j, j < S.length → ∀ x, S[j]? = some x → ¬ (x.1 = r ∧ x.2.1 = c)) : levelT S r c = none := by
  unfold levelT
  rw [List.findIdx?_eq_none_iff]
  intro x hx
  obtain ⟨j, hj⟩ := List.getElem?_of_mem hx
  have := hb j (List.getElem?_eq_some_iff.1 hj).1 x hj
  simp only [Bool.and_eq_false_iff, decide_eq_false_iff_not]
  rcases Classical.em (x.1 = r) with h | h
  · exact Or.inr fun e => this ⟨h, e⟩
  · exact Or.inl h
theorem Try.infoCe : (Try.prog.info? 83).map (·.size) = some 4 := by kernel_rfl
theorem res_cell {fn : Func} {a p u : Tmp} (h : fn.results = #[.tmp a, .cell p 83, .tmp u]) (tmps : Array Value) (w : World) (g : Nat) (cs : Array Value) (hcs : cs.size = 4) (hp : tmps.getD p undef = .pointer (some ⟨g, 0, none⟩)) (hk : Blk w g 83 cs) :
    (results fn tmps).run Try.prog w = .ok (.tuple #[tmps.getD a undef, .agg cs, tmps.getD u undef]) w := by
  have hp' : tmps[p]?.getD undef = .pointer (some ⟨g, 0, none⟩) := by simpa using hp
  simp only [results, h]
  simp [asAddr, Result.andThen, hp', Sem.run_bind, run_loadVar_row w g 83 83 cs (0, 0) _ hk Try.underlying83 rfl (by rw [hcs]; exact Try.infoCe)]
theorem cell_facts {w : World} {g : Nat} {t : TypeId} {a b c d : Value} (h : Blk w g t #[a, b, c, d]) : w.cell? ⟨g, 0, none⟩ = some a ∧ w.cell? ⟨g, 1, none⟩ = some b ∧ w.cell? ⟨g, 2, none⟩ = some c ∧ w.cell? ⟨g, 3, none⟩ = some d ∧ w.frozen? ⟨g, 0, none⟩ = false ∧ w.frozen? ⟨g, 1, none⟩ = false ∧ w.frozen? ⟨g, 2, none⟩ = false ∧ w.frozen? ⟨g, 3, none⟩ = false :=
  ⟨h.cell 0, h.cell 1, h.cell 2, h.cell 3, h.frozen 0, h.frozen 1, h.frozen 2, h.frozen 3⟩
theorem cell_stored {w : World} {g : Nat} {t : TypeId} {a b c d : Value} (h : Blk w g t #[a, b, c, d]) (a' b' c' d' : Value) : Blk ((((w.setCell ⟨g, 0, none⟩ a').setCell ⟨g, 1, none⟩ b').setCell ⟨g, 2, none⟩ c').setCell ⟨g, 3, none⟩ d') g t #[a', b', c', d'] := by
  simpa using (((h.set_ 0 a').set_ 1 b').set_ 2 c').set_ 3 d'
theorem grown_cell (w : World) (g : Nat) (a' b' c' d' : Value) : w.grownBy ((((w.setCell ⟨g, 0, none⟩ a').setCell ⟨g, 1, none⟩ b').setCell ⟨g, 2, none⟩ c').setCell ⟨g, 3, none⟩ d') (some g) :=
  (((grown_setX w g 0 a').trans (grown_setX _ g 1 b')).trans (grown_setX _ g 2 c')).trans (grown_setX _ g 3 d')
/-- what cellAt tells -/
def cellV (o : Option (Nat × Cl)) : Value := match o with
  | some p => .tuple #[.int .i64 p.1, .agg #[.int .i64 p.2.1, .int .i64 p.2.2.1, .bool p.2.2.2.1, .bool p.2.2.2.2], .bool true]
  | none => .tuple #[.int .i64 0, .agg #[.int .i64 0, .int .i64 0, .bool false, .bool false], .bool false]
set_option maxHeartbeats 4000000 in
set_option maxRecDepth 100000 in
theorem impl_cellAt (s : ByteArray) (r c : Int) (w : World) (hs : s.size ≤ 1000) :
    Calls Try.prog 42 #[.string s, .int .i64 r, .int .i64 c] w fun e w' => e = .returned (cellV (cellO s.data.toList r c)) ∧ Below w.heap.size w w' := by
  cases hv : shB s.data.toList with
  | false =>
    have hn : cellO s.data.toList r c = none := by unfold cellO; rw [if_neg (by rw [hv]; intro h; cases h.1)]
    have HZ : Hid (∀ W : World, Calls Try.prog 15 #[.string s] W fun e w' => e = .returned (.tuple #[.agg #[.int .i64 0, .int .i64 0], .bool false]) ∧ Below W.heap.size W w') := by
      show ∀ W : World, _
      intro W
      have := impl_sizeOf s W hs
      rw [sizeO_no hv] at this
      exact this
    have HN := Lib.hid hn
    have HB0 : Hid (Below w.heap.size w (w.alloc (.cells #[.int .i64 0, .int .i64 0, .bool false, .bool false] 83))) := (Below.refl _ _).alloc (Nat.le_refl _) _
    have HK0 : Hid (Blk (w.alloc (.cells #[.int .i64 0, .int .i64 0, .bool false, .bool false] 83)) w.heap.size 83 #[.int .i64 0, .int .i64 0, .bool false, .bool false]) := Blk.new w _ _
    obtain ⟨fb, hfb⟩ : ∃ fb, fb = w.heap.size := ⟨_, rfl⟩
    clear hn hv
    go_enter Try.func42, Try.ntmps42
    go_wp2_with fail
    obtain ⟨w0, hw0⟩ : ∃ w0, w0 = w.alloc (.cells #[.int .i64 0, .int .i64 0, .bool false, .bool false] 83) := ⟨_, rfl⟩
    rw [← hw0] at HB0 HK0 ⊢
    rw [← hfb] at HK0 ⊢
    have HFB := Lib.hid (Nat.le_of_eq hfb.symm)
    clear hw0 hfb
    refine (HZ.out w0).mono ?_
    rintro e w1 ⟨rfl, hb1⟩
    have HB1 := Lib.hid ((HB0.out.trans (hb1.mono HB0.out.size)).alloc (Nat.le_trans HB0.out.size hb1.size) (.cells #[.int .i64 0, .int .i64 0] 44))
    have HK1 := Lib.hid ((HK0.out.below hb1 HK0.out.lt).alloc (.cells #[.int .i64 0, .int .i64 0] 44))
    have HC := Lib.hid (cell_facts HK1.out)
    clear hb1
    obtain ⟨g0, g1, g2, g3, f0, f1, f2, f3⟩ := HC.out
    have HST := Lib.hid (cell_stored HK1.out (.int .i64 0) (.int .i64 0) (.bool false) (.bool false))
    go_wp2_with fail
    refine bodyPost_ret (res_cell rfl _ _ fb _ rfl (by rfl) HST.out) rfl ⟨by rw [HN.out]; rfl, ?_⟩
    exact HB1.out.grown (grown_cell _ fb _ _ _ _) HB1.out.size (fun g e => by cases e; exact HFB.out)
  | true =>
    obtain ⟨l, hl⟩ : ∃ l, l = s.data.toList := ⟨_, rfl⟩
    obtain ⟨R, hR⟩ : ∃ R, R = rowsT l := ⟨_, rfl⟩
    obtain ⟨C, hC⟩ : ∃ C, C = colsT l := ⟨_, rfl⟩
    have HZ : Hid (∀ W : World, Calls Try.prog 15 #[.string s] W fun e w' => e = .returned (.tuple #[.agg #[.int .i64 R, .int .i64 C], .bool true]) ∧ Below W.heap.size W w') := by
      show ∀ W : World, _
      intro W
      have := impl_sizeOf s W hs
      rw [sizeO_yes hv, ← hl, ← hR, ← hC] at this
      exact this
    have HSS := Lib.hid (fun W : World => impl_SheetStack s W hv)
    have HH := Lib.hid (fun W : World => impl_has R C r c W)
    have HB0 : Hid (Below w.heap.size w (w.alloc (.cells #[.int .i64 0, .int .i64 0, .bool false, .bool false] 83))) := (Below.refl _ _).alloc (Nat.le_refl _) _
    have HK0 : Hid (Blk (w.alloc (.cells #[.int .i64 0, .int .i64 0, .bool false, .bool false] 83)) w.heap.size 83 #[.int .i64 0, .int .i64 0, .bool false, .bool false]) := Blk.new w _ _
    obtain ⟨fb, hfb⟩ : ∃ fb, fb = w.heap.size := ⟨_, rfl⟩
    have hlen5 : (stackT l).length ≤ 1000 := by
      obtain ⟨q1, q2⟩ := shB_parts hv
      rw [hl, stackT_len q2]
      have := pow5 q1
      omega
    have HCL : Hid (∀ (b : Bool), (decide (0 ≤ r) && decide (r < (R : Int)) && decide (0 ≤ c) && decide (c < (C : Int))) = b → cellO l r c = if b = true then (levelT (stackT l) r.toNat c.toNat).map fun k => (k, ((stackT l)[k]?).getD (0, 0, false, false)) else none) := by
      show ∀ b, _
      intro b hb
      unfold cellO
      rw [← hR, ← hC, hl, hv]
      cases b with
      | true =>
        simp only [Bool.and_eq_true, decide_eq_true_eq] at hb
        rw [if_pos ⟨rfl, hb.1.1.1, hb.1.1.2, hb.1.2, hb.2⟩, if_pos rfl]
      | false =>
        rw [if_neg, if_neg (by decide)]
        rintro ⟨_, h1, h2, h3, h4⟩
        simp [h1, h2, h3, h4] at hb
    rw [← hl] at HSS ⊢
    obtain ⟨T, hT⟩ : ∃ T, T = stackT l := ⟨_, rfl⟩
    rw [← hT] at HSS HCL hlen5
    clear hl hR hC hv hT
    go_enter Try.func42, Try.ntmps42
    go_wp2_with fail
    obtain ⟨w0, hw0⟩ : ∃ w0, w0 = w.alloc (.cells #[.int .i64 0, .int .i64 0, .bool false, .bool false] 83) := ⟨_, rfl⟩
    rw [← hw0] at HB0 HK0 ⊢
    rw [← hfb] at HK0 ⊢
    have HFB := Lib.hid (Nat.le_of_eq hfb.symm)
    clear hw0 hfb
    refine (HZ.out w0).mono ?_
    rintro e w1 ⟨rfl, hb1⟩
    have HB1 := Lib.hid ((HB0.out.trans (hb1.mono HB0.out.size)).alloc (Nat.le_trans HB0.out.size hb1.size) (.cells #[.int .i64 R, .int .i64 C] 44))
    have HK1 := Lib.hid ((HK0.out.below hb1 HK0.out.lt).alloc (.cells #[.int .i64 R, .int .i64 C] 44))
    clear hb1 HB0 HK0
    obtain ⟨bin, hbin⟩ : ∃ b, (decide (0 ≤ r) && decide (r < (R : Int)) && decide (0 ≤ c) && decide (c < (C : Int))) = b := ⟨_, rfl⟩
    have HCC := Lib.hid (HCL.out bin hbin)
    have HBI := Lib.hid hbin
    rw [hbin] at HH
    clear HCL hbin
    go_wp2_with fail
    refine (HH.out _).mono ?_
    rintro e w2 ⟨rfl, hb2⟩
    have HB2 := Lib.hid (HB1.out.trans (hb2.mono HB1.out.size))
    have HK2 := Lib.hid (HK1.out.below hb2 HK1.out.lt)
    clear hb2 HB1 HK1
    cases bin with
    | false =>
      obtain ⟨g0, g1, g2, g3, f0, f1, f2, f3⟩ := cell_facts HK2.out
      have HST := Lib.hid (cell_stored HK2.out (.int .i64 0) (.int .i64 0) (.bool false) (.bool false))
      go_wp2_with fail
      refine bodyPost_ret (res_cell rfl _ _ fb _ rfl (by rfl) HST.out) rfl ⟨by rw [HCC.out]; rfl, ?_⟩
      exact HB2.out.grown (grown_cell _ fb _ _ _ _) HB2.out.size (fun g e => by cases e; exact HFB.out)
    | true =>
      have hin := HBI.out
      simp only [Bool.and_eq_true, decide_eq_true_eq] at hin
      obtain ⟨rn, rfl⟩ : ∃ n : Nat, r = (n : Int) := ⟨r.toNat, by omega⟩
      obtain ⟨cn, rfl⟩ : ∃ n : Nat, c = (n : Int) := ⟨c.toNat, by omega⟩
      have hcc : cellO l rn cn = (levelT T rn cn).map fun k => (k, (T[k]?).getD (0, 0, false, false)) := by
        rw [HCC.out, if_pos rfl]; rfl
      have HC2 := Lib.hid hcc
      clear hin hcc HCC HBI
      go_wp2_with fail
      refine (HSS.out _).mono ?_
      rintro e w3 ⟨⟨v3, rfl, hS3⟩, hb3⟩
      have HB3 := Lib.hid (HB2.out.trans (hb3.mono HB2.out.size))
      have HK3 := Lib.hid (HK2.out.below hb3 HK2.out.lt)
      obtain ⟨A3, c3, rfl, hr3⟩ := sl_len hS3
      have HR3 := Lib.hid hr3
      clear hS3 hb3 hr3 HB2 HK2
      go_wp2_with fail
      go_loopg [13, 14, 37] (T.length + 1) (fun gg s13 s14 s37 wr => ∃ (k : Nat), s13 = s13 ∧ s14 = s14 ∧ k ≤ T.length ∧ s37 = .int .i64 k ∧ T.length - k < gg ∧ Hid (Below w3.heap.size w3 wr) ∧ Hid (∀ j, j < k → ∀ x, T[j]? = some x → ¬ (x.1 = rn ∧ x.2.1 = cn)))
      case atStart => exact ⟨0, rfl, rfl, Nat.zero_le _, rfl, by omega, Below.refl _ _, fun j hj => absurd hj (Nat.not_lt_zero j)⟩
      case round =>
        obtain ⟨k, _, _, hk, rfl, hg, HB, HNo⟩ := hrel
        cases gk with
        | zero => omega
        | succ g1 =>
        have hkf := HK3.out.below HB.out HK3.out.lt
        by_cases hlt : k < T.length
        · have k1 : (k : Int) < (T.length : Int) := by omega
          have k0 : (0 : Int) ≤ (k : Int) := by omega
          obtain ⟨bb, off, rfl, hbb, e0, e1, e2, e3⟩ := (HR3.out.below HB.out).cl hlt
          obtain ⟨x, hx⟩ : ∃ x, x = T[k] := ⟨_, rfl⟩
          rw [← hx] at e0 e1 e2 e3
          have hget : T[k]? = some x := by rw [hx]; exact List.getElem?_eq_getElem hlt
          by_cases hboth : x.1 = rn ∧ x.2.1 = cn
          · obtain ⟨h1, h2⟩ := hboth
            have hlv : levelT T rn cn = some k := levelT_some hlt (by rw [← hx]; exact h1) (by rw [← hx]; exact h2) HNo.out
            have HAns : Hid (cellO l rn cn = some (k, x)) := by show _ = _; rw [HC2.out, hlv]; show some (k, (T[k]?).getD _) = _; rw [hget]; rfl
            have d1 : ((x.1 : Int) == (rn : Int)) = true := by rw [beq_iff_eq]; omega
            have d2 : ((x.2.1 : Int) == (cn : Int)) = true := by rw [beq_iff_eq]; omega
            have HAL : Hid (Below wr.heap.size wr (wr.alloc (.cells #[.int .i64 x.1, .int .i64 x.2.1, .bool x.2.2.1, .bool x.2.2.2] 83))) := (Below.refl _ _).alloc (Nat.le_refl _) _
            have HKF := Lib.hid (hkf.alloc (.cells #[.int .i64 x.1, .int .i64 x.2.1, .bool x.2.2.1, .bool x.2.2.2] 83))
            have HKP := Lib.hid (Blk.new wr 83 #[.int .i64 x.1, .int .i64 x.2.1, .bool x.2.2.1, .bool x.2.2.2])
            clear hx hget hlv h1 h2 hkf
            go_wp2_with fail
            obtain ⟨w5, hw5⟩ : ∃ y, y = wr.alloc (.cells #[.int .i64 x.1, .int .i64 x.2.1, .bool x.2.2.1, .bool x.2.2.2] 83) := ⟨_, rfl⟩
            rw [← hw5] at HAL HKF HKP ⊢
            clear hw5
            obtain ⟨g0, g1', g2, g3, f0, f1, f2, f3⟩ := cell_facts HKF.out
            obtain ⟨p0, p1, p2, p3, _, _, _, _⟩ := cell_facts HKP.out
            have HST := Lib.hid (cell_stored HKF.out (.int .i64 x.1) (.int .i64 x.2.1) (.bool x.2.2.1) (.bool x.2.2.2))
            have HBE := Lib.hid ((HB3.out.trans (HB.out.mono HB3.out.size)).trans (HAL.out.mono (Nat.le_trans HB3.out.size HB.out.size)))
            clear HAL HKF HKP
            go_region
            all_goals
              go_wp2_with fail
              refine bodyPost_ret (res_cell rfl _ _ fb _ rfl (by rfl) (HST.out.drewN 1)) rfl ⟨by rw [HAns.out]; rfl, ?_⟩
              exact below_drewN (HBE.out.grown (grown_cell _ fb _ _ _ _) HBE.out.size (fun g e => by cases e; exact HFB.out)) 1
          · have HNo2 : Hid (∀ j, j < k + 1 → ∀ x, T[j]? = some x → ¬ (x.1 = rn ∧ x.2.1 = cn)) := by
              show ∀ j, _
              intro j hj y hy
              by_cases e : j = k
              · subst e
                rw [hget] at hy; cases hy; exact hboth
              · exact HNo.out j (by omega) y hy
            have HAL : Hid (Below w3.heap.size w3 (wr.alloc (.cells #[.int .i64 x.1, .int .i64 x.2.1, .bool x.2.2.1, .bool x.2.2.2] 83))) := HB.out.alloc HB.out.size _
            clear hx hget hkf HNo
            by_cases h1 : x.1 = rn
            · have h2 : x.2.1 ≠ cn := fun e => hboth ⟨h1, e⟩
              have d1 : ((x.1 : Int) == (rn : Int)) = true := by rw [beq_iff_eq]; omega
              have d2 : ((x.2.1 : Int) == (cn : Int)) = false := by rw [beq_eq_false_iff_ne]; omega
              clear h1 h2 hboth
              go_wp2_with fail
              go_roundg g1
              case measure => omega
              case rel => exact ⟨k + 1, trivial, trivial, by omega, by go_num, by omega, HAL, HNo2⟩
            · have d1 : ((x.1 : Int) == (rn : Int)) = false := by rw [beq_eq_false_iff_ne]; omega
              clear h1 hboth
              go_wp2_with fail
              go_roundg g1
              case measure => omega
              case rel => exact ⟨k + 1, trivial, trivial, by omega, by go_num, by omega, HAL, HNo2⟩
        · obtain rfl : k = T.length := by omega
          have hlv : levelT T rn cn = none := levelT_none HNo.out
          have HAns : Hid (cellO l rn cn = none) := by show _ = _; rw [HC2.out, hlv]; rfl
          obtain ⟨g0, g1', g2, g3, f0, f1, f2, f3⟩ := cell_facts hkf
          have HST := Lib.hid (cell_stored hkf (.int .i64 0) (.int .i64 0) (.bool false) (.bool false))
          have HBE := Lib.hid (HB3.out.trans (HB.out.mono HB3.out.size))
          clear hlv hkf
          go_wp2_with fail
          refine bodyPost_ret (res_cell rfl _ _ fb _ rfl (by rfl) HST.out) rfl ⟨by rw [HAns.out]; rfl, ?_⟩
          exact HBE.out.grown (grown_cell _ fb _ _ _ _) HBE.out.size (fun g e => by cases e; exact HFB.out)
theorem crO_some {l : List UInt8} {r c r' c' : Int} {a b : Nat × Cl} (h1 : cellO l r c = some a) (h2 : cellO l r' c' = some b) : crO l r c r' c' = [if (if b.1 < a.1 then b.2 else a.2).2.2.1 then 86 else 77] := by
  unfold crO; rw [h1, h2]
theorem crO_no1 {l : List UInt8} {r c r' c' : Int} (h1 : cellO l r c = none) : crO l r c r' c' = [] := by
  unfold crO; rw [h1]
theorem crO_no2 {l : List UInt8} {r c r' c' : Int} (h2 : cellO l r' c' = none) : crO l r c r' c' = [] := by
  unfold crO; rw [h2]
  cases cellO l r c <;> rfl
theorem cellO_lt {l : List UInt8} {r c : Int} {a : Nat × Cl} (h : cellO l r c = some a) : a.1 < 32 := by
  unfold cellO at h
  split at h
  · next hc =>
    obtain ⟨q1, q2⟩ := shB_parts hc.1
    cases hv : levelT (stackT l) r.toNat c.toNat with
    | none => rw [hv] at h; cases h
    | some k =>
      rw [hv] at h
      cases h
      have : k < (stackT l).length := by
        unfold levelT at hv
        exact (List.findIdx?_eq_some_iff_getElem.1 hv).1
      have h2 := stackT_len q2
      have h3 := pow5 q1
      show k < 32
      omega
  · cases h
set_option maxHeartbeats 4000000 in
set_option maxRecDepth 100000 in
theorem impl_creaseOf (s : ByteArray) (r c r' c' : Int) (w : World) (hs : s.size ≤ 1000) :
    Calls Try.prog 32 #[.string s, .int .i64 r, .int .i64 c, .int .i64 r', .int .i64 c'] w fun e w' => e = .returned (.string ⟨(crO s.data.toList r c r' c').toArray⟩) ∧ Below w.heap.size w w' := by
  have H1 := Lib.hid (fun W : World => impl_cellAt s r c W hs)
  have H2 := Lib.hid (fun W : World => impl_cellAt s r' c' W hs)
  cases h1 : cellO s.data.toList r c with
  | none =>
    have HR := Lib.hid (crO_no1 (r' := r') (c' := c') h1)
    rw [h1] at H1
    unfold cellV at H1
    clear h1
    go_enter Try.func32, Try.ntmps32
    go_wp2_with fail
    refine (H1.out w).mono ?_
    rintro e w1 ⟨rfl, hb1⟩
    go_wp2_with fail
    go_ret
    exact ⟨by rw [HR.out]; rfl, hb1.alloc hb1.size _⟩
  | some a =>
    obtain ⟨ka, xa⟩ := a
    have hla : ka < 32 := cellO_lt h1
    cases h2 : cellO s.data.toList r' c' with
    | none =>
      have HR := Lib.hid (crO_no2 (r := r) (c := c) h2)
      rw [h1] at H1
      rw [h2] at H2
      unfold cellV at H1 H2
      clear h1 h2
      go_enter Try.func32, Try.ntmps32
      go_wp2_with fail
      refine (H1.out w).mono ?_
      rintro e w1 ⟨rfl, hb1⟩
      have HB1 := Lib.hid (hb1.alloc hb1.size (.cells #[.int .i64 xa.1, .int .i64 xa.2.1, .bool xa.2.2.1, .bool xa.2.2.2] 83))
      clear hb1
      go_wp2_with fail
      refine (H2.out _).mono ?_
      rintro e w2 ⟨rfl, hb2⟩
      have hb3 := HB1.out.trans (hb2.mono HB1.out.size)
      go_wp2_with fail
      go_ret
      exact ⟨by rw [HR.out]; rfl, hb3.alloc hb3.size _⟩
    | some b =>
      obtain ⟨kb, xb⟩ := b
      have hlb : kb < 32 := cellO_lt h2
      have HR := Lib.hid (crO_some h1 h2)
      rw [h1] at H1
      rw [h2] at H2
      unfold cellV at H1 H2
      clear h1 h2
      obtain ⟨ra, ca, ua, da⟩ := xa
      obtain ⟨rb, cb, ub, db⟩ := xb
      go_enter Try.func32, Try.ntmps32
      go_wp2_with fail
      refine (H1.out w).mono ?_
      rintro e w1 ⟨rfl, hb1⟩
      have HB1 := Lib.hid (hb1.alloc hb1.size (.cells #[.int .i64 ra, .int .i64 ca, .bool ua, .bool da] 83))
      have HK1 := Lib.hid (Blk.new w1 83 #[.int .i64 ra, .int .i64 ca, .bool ua, .bool da])
      clear hb1
      go_wp2_with fail
      refine (H2.out _).mono ?_
      rintro e w2 ⟨rfl, hb2⟩
      have HB2 := Lib.hid (HB1.out.trans (hb2.mono HB1.out.size))
      have hk2 := HK1.out.below hb2 HK1.out.lt
      obtain ⟨g0, g1, g2, g3, _, _, _, _⟩ := cell_facts hk2
      have hlt2 := hk2.lt
      obtain ⟨q, hq⟩ : ∃ q, q = w1.heap.size := ⟨_, rfl⟩
      rw [← hq] at g0 g1 g2 g3 hlt2 ⊢
      clear hb2 hk2 HB1 HK1 hq
      have hal : Below w.heap.size w ((w2.alloc (.cells #[.int .i64 rb, .int .i64 cb, .bool ub, .bool db] 83)).alloc (.cells #[.int .i64 ra, .int .i64 ca, .bool ua, .bool da] 83)) := (HB2.out.alloc HB2.out.size _).alloc (Nat.le_trans HB2.out.size (by simp)) _
      have hal2 : Below w.heap.size w ((w2.alloc (.cells #[.int .i64 rb, .int .i64 cb, .bool ub, .bool db] 83)).alloc (.cells #[.int .i64 rb, .int .i64 cb, .bool ub, .bool db] 83)) := (HB2.out.alloc HB2.out.size _).alloc (Nat.le_trans HB2.out.size (by simp)) _
      have HA1 := Lib.hid hal
      have HA2 := Lib.hid hal2
      clear hal hal2
      by_cases hlt : kb < ka
      · have hr := HR.out
        rw [if_pos (show ((kb, (rb, cb, ub, db)) : Nat × Cl).1 < ((ka, (ra, ca, ua, da)) : Nat × Cl).1 from hlt)] at hr
        have HR2 := Lib.hid hr
        clear hr
        cases ub with
        | true =>
          go_wp2_with fail
          go_ret
          exact ⟨by rw [HR2.out]; rfl, HA2.out⟩
        | false =>
          go_wp2_with fail
          go_ret
          exact ⟨by rw [HR2.out]; rfl, HA2.out⟩
      · have hr := HR.out
        rw [if_neg (show ¬ ((kb, (rb, cb, ub, db)) : Nat × Cl).1 < ((ka, (ra, ca, ua, da)) : Nat × Cl).1 from hlt)] at hr
        have HR2 := Lib.hid hr
        clear hr
        cases ua with
        | true =>
          go_wp2_with fail
          go_ret
          exact ⟨by rw [HR2.out]; rfl, HA1.out⟩
        | false =>
          go_wp2_with fail
          go_ret
          exact ⟨by rw [HR2.out]; rfl, HA1.out⟩
theorem impl_SheetRight (s : ByteArray) (r c : Int) (w : World) (hs : s.size ≤ 1000) (hc : -1000 ≤ c ∧ c ≤ 1000) :
    Calls Try.prog 17 #[.string s, .int .i64 r, .int .i64 c] w fun e w' => e = .returned (.string ⟨(crO s.data.toList r c r (c + 1)).toArray⟩) ∧ Below w.heap.size w w' := by
  have kw : IntKind.i64.wrap (c + 1) = c + 1 := IntWalk.i64_in _ (by omega)
  have H := Lib.hid (fun W : World => impl_creaseOf s r c r (c + 1) W hs)
  go_enter Try.func17, Try.ntmps17
  go_wp2_with fail
  refine (H.out w).mono ?_
  rintro e w1 ⟨rfl, hb⟩
  go_wp2_with fail
  go_ret
  exact ⟨rfl, hb⟩
theorem impl_SheetDown (s : ByteArray) (r c : Int) (w : World) (hs : s.size ≤ 1000) (hc : -1000 ≤ r ∧ r ≤ 1000) :
    Calls Try.prog 18 #[.string s, .int .i64 r, .int .i64 c] w fun e w' => e = .returned (.string ⟨(crO s.data.toList r c (r + 1) c).toArray⟩) ∧ Below w.heap.size w w' := by
  have kw : IntKind.i64.wrap (r + 1) = r + 1 := IntWalk.i64_in _ (by omega)
  have H := Lib.hid (fun W : World => impl_creaseOf s r c (r + 1) c W hs)
  go_enter Try.func18, Try.ntmps18
  go_wp2_with fail
  refine (H.out w).mono ?_
  rintro e w1 ⟨rfl, hb⟩
  go_wp2_with fail
  go_ret
  exact ⟨rfl, hb⟩
end Go.Proofs.Ytdpfnhkhojiddaa
