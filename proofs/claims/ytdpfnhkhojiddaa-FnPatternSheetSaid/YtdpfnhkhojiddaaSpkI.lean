/- Levels, creases and corners of a text: the reference's. No condition but sizes. -/
import Derived.Test.YtdpfnhkhojiddaaSpkH
import Derived.Test.YtdpfnhkhojiddaaSpecA
namespace Go.Proofs.Ytdpfnhkhojiddaa
open Go.RowKit

/-- the stack of a text, empty where there is none -/
def stkO (l : List UInt8) : List Cl := if shB l then stackT l else []
theorem stkO_yes {l : List UInt8} (h : shB l = true) : stkO l = stackT l := by unfold stkO; rw [if_pos h]
theorem stkO_no {l : List UInt8} (h : shB l = false) : stkO l = [] := by unfold stkO; rw [if_neg (by rw [h]; decide)]
theorem stkO_len (l : List UInt8) : (stkO l).length ≤ 32 := by
  cases h : shB l with
  | true =>
    obtain ⟨q1, q2⟩ := shB_parts h
    rw [stkO_yes h, stackT_len q2]
    exact pow5 q1
  | false => rw [stkO_no h]; simp
/-- a level as a number -/
def levZ (o : Option Nat) : Int := match o with | some k => (k : Int) | none => -1
set_option maxHeartbeats 400000 in
theorem spec_SheetStack (s : ByteArray) (w : World) (hs : s.size ≤ 1000) :
    Calls Try.prog 44 #[.string s] w fun e w' => (∃ v, e = .returned (.tuple #[v, .bool (shB s.data.toList)]) ∧ SlC w' v (stkO s.data.toList)) ∧ Below w.heap.size w w' := by
  have HV := Lib.hid (spec_SheetValid s w hs)
  cases hv : shB s.data.toList with
  | false =>
    rw [hv] at HV
    rw [stkO_no hv]
    clear hv
    go_enter Try.func44, Try.ntmps44
    go_wp2_with fail
    refine HV.out.mono ?_
    rintro e _ ⟨rfl, rfl⟩
    go_wp2_with fail
    go_ret2
    exact ⟨⟨_, rfl, _, 0, rfl, RowV.nil _ _, Nat.le_refl _, by unfold maxLen; omega⟩, (Below.refl _ _).alloc (Nat.le_refl _) _⟩
  | true =>
    rw [hv] at HV
    rw [stkO_yes hv]
    have HS := Lib.hid (fun W : World => spec_l4Stack s W hv)
    clear hv
    go_enter Try.func44, Try.ntmps44
    go_wp2_with fail
    refine HV.out.mono ?_
    rintro e _ ⟨rfl, rfl⟩
    go_wp2_with fail
    refine (HS.out w).mono ?_
    rintro e w1 ⟨⟨v, rfl, h⟩, hb⟩
    go_wp2_with fail
    go_ret2
    exact ⟨⟨_, rfl, h⟩, hb⟩
set_option maxHeartbeats 1000000 in
set_option maxRecDepth 100000 in
theorem spec_SheetLevel (s : ByteArray) (rn cn : Nat) (w : World) (hs : s.size ≤ 1000) :
    Calls Try.prog 34 #[.string s, .int .i64 rn, .int .i64 cn] w fun e w' => e = .returned (.int .i64 (levZ (levelT (stkO s.data.toList) rn cn))) ∧ Below w.heap.size w w' := by
  have HSS := Lib.hid (spec_SheetStack s w hs)
  have htl := stkO_len s.data.toList
  obtain ⟨T, hT⟩ : ∃ T, T = stkO s.data.toList := ⟨_, rfl⟩
  obtain ⟨bv, hbv⟩ : ∃ b, b = shB s.data.toList := ⟨_, rfl⟩
  rw [← hT, ← hbv] at HSS
  rw [← hT] at htl ⊢
  clear hT hbv
  go_enter Try.func34, Try.ntmps34
  go_wp2_with fail
  refine HSS.out.mono ?_
  rintro e w1 ⟨⟨v1, rfl, hS1⟩, hb1⟩
  obtain ⟨A1, c1, rfl, hr1⟩ := sl_len hS1
  have HR1 := Lib.hid hr1
  have HB1 := Lib.hid hb1
  clear hS1 hr1 hb1
  go_wp2_with fail
  go_loop [9] (fun s9 => ∃ (k : Nat), k ≤ T.length ∧ s9 = .int .i64 k ∧ Hid (∀ j, j < k → ∀ x, T[j]? = some x → ¬ (x.1 = rn ∧ x.2.1 = cn))) (fun s9 => T.length - (intOf s9).toNat)
  case atStart => exact ⟨0, Nat.zero_le _, rfl, fun j hj => absurd hj (Nat.not_lt_zero j)⟩
  case round =>
    obtain ⟨k, hk, rfl, HNo⟩ := hrel
    by_cases hlt : k < T.length
    · have k1 : (k : Int) < (T.length : Int) := by omega
      have k0 : (0 : Int) ≤ (k : Int) := by omega
      obtain ⟨bb, off, rfl, hbb, e0, e1, e2, e3⟩ := HR1.out.cl hlt
      obtain ⟨x, hx⟩ : ∃ x, x = T[k] := ⟨_, rfl⟩
      rw [← hx] at e0 e1 e2 e3
      have hget : T[k]? = some x := by rw [hx]; exact List.getElem?_eq_getElem hlt
      by_cases hboth : x.1 = rn ∧ x.2.1 = cn
      · obtain ⟨h1, h2⟩ := hboth
        have hlv : levelT T rn cn = some k := levelT_some hlt (by rw [← hx]; exact h1) (by rw [← hx]; exact h2) HNo.out
        have HLV := Lib.hid hlv
        have d1 : ((x.1 : Int) == (rn : Int)) = true := by rw [beq_iff_eq]; omega
        have d2 : ((x.2.1 : Int) == (cn : Int)) = true := by rw [beq_iff_eq]; omega
        clear hx hget hlv h1 h2
        go_wp2_with fail
        go_ret
        exact ⟨by rw [HLV.out]; rfl, HB1.out⟩
      · have HNo2 : Hid (∀ j, j < k + 1 → ∀ x, T[j]? = some x → ¬ (x.1 = rn ∧ x.2.1 = cn)) := by
          show ∀ j, _
          intro j hj y hy
          by_cases e : j = k
          · subst e
            rw [hget] at hy; cases hy; exact hboth
          · exact HNo.out j (by omega) y hy
        clear hx hget HNo
        by_cases h1 : x.1 = rn
        · have h2 : x.2.1 ≠ cn := fun e => hboth ⟨h1, e⟩
          have d1 : ((x.1 : Int) == (rn : Int)) = true := by rw [beq_iff_eq]; omega
          have d2 : ((x.2.1 : Int) == (cn : Int)) = false := by rw [beq_eq_false_iff_ne]; omega
          clear h1 h2 hboth
          go_wp2_with fail
          go_round
          case rel => exact ⟨k + 1, by omega, by go_num, HNo2⟩
          case measure => simp [intOf]; omega
        · have d1 : ((x.1 : Int) == (rn : Int)) = false := by rw [beq_eq_false_iff_ne]; omega
          clear h1 hboth
          go_wp2_with fail
          go_round
          case rel => exact ⟨k + 1, by omega, by go_num, HNo2⟩
          case measure => simp [intOf]; omega
    · obtain rfl : k = T.length := by omega
      have HLV : Hid (levelT T rn cn = none) := levelT_none HNo.out
      go_wp2_with fail
      go_ret
      exact ⟨by rw [HLV.out]; rfl, HB1.out⟩
/-- the crease of two levels -/
def crZ (T : List Cl) (a b : Option Nat) : List UInt8 := match a, b with
  | some a, some b => [creaseT T a b]
  | _, _ => []
theorem crsT_crZ (T : List Cl) (r c r' c' : Nat) : crsT T r c r' c' = crZ T (levelT T r c) (levelT T r' c') := by
  unfold crsT crZ
  rfl
theorem levelT_lt {T : List Cl} {r c k : Nat} (h : levelT T r c = some k) : k < T.length := by
  unfold levelT at h
  exact (List.findIdx?_eq_some_iff_getElem.1 h).1
set_option maxHeartbeats 1000000 in
set_option maxRecDepth 100000 in
theorem spec_l4Crease (s : ByteArray) (a b : Option Nat) (w : World) (hs : s.size ≤ 1000) (ha : ∀ k, a = some k → k < (stkO s.data.toList).length) (hb : ∀ k, b = some k → k < (stkO s.data.toList).length) :
    Calls Try.prog 33 #[.string s, .int .i64 (levZ a), .int .i64 (levZ b)] w fun e w' => e = .returned (.string (btx (crZ (stkO s.data.toList) a b))) ∧ Below w.heap.size w w' := by
  cases a with
  | none =>
    have e1 : levZ none = -1 := rfl
    have e2 : crZ (stkO s.data.toList) none b = [] := by cases b <;> rfl
    rw [e1, e2]
    obtain ⟨z, hz⟩ : ∃ z, z = levZ b := ⟨_, rfl⟩
    rw [← hz]
    clear hz e1 e2 ha hb
    go_enter Try.func33, Try.ntmps33
    go_wp2_with fail
    go_ret
    exact ⟨rfl, Below.refl _ _⟩
  | some a =>
    have e0 : levZ (some a) = (a : Int) := rfl
    rw [e0]
    clear e0
    cases b with
    | none =>
      have e1 : levZ none = -1 := rfl
      have e2 : crZ (stkO s.data.toList) (some a) none = [] := rfl
      rw [e1, e2]
      clear e1 e2 ha hb
      go_enter Try.func33, Try.ntmps33
      go_wp2_with fail
      go_ret
      exact ⟨rfl, Below.refl _ _⟩
    | some b =>
      have e1 : levZ (some b) = (b : Int) := rfl
      rw [e1]
      have hal := ha a rfl
      have hbl := hb b rfl
      have hv : shB s.data.toList = true := by
        cases hv : shB s.data.toList with
        | true => rfl
        | false => rw [stkO_no hv] at hal; simp at hal
      have HS := Lib.hid (fun W : World => spec_l4Stack s W hv)
      have htl := stkO_len s.data.toList
      rw [← stkO_yes hv] at HS
      obtain ⟨T, hT⟩ : ∃ T, T = stkO s.data.toList := ⟨_, rfl⟩
      rw [← hT] at HS htl hal hbl ⊢
      obtain ⟨m, hm⟩ : ∃ m, m = min a b := ⟨_, rfl⟩
      have hml : m < T.length := by omega
      obtain ⟨u, hu⟩ : ∃ u, u = (T[m]).2.2.1 := ⟨_, rfl⟩
      have hcr : crZ T (some a) (some b) = [if u then 86 else 77] := by
        show [creaseT T a b] = _
        unfold creaseT
        rw [← hm, List.getElem?_eq_getElem hml, hu]; rfl
      rw [hcr]
      have HU := Lib.hid hu
      clear hcr hT hv ha hb hu e1
      by_cases hle : a ≤ b
      · obtain rfl : m = a := by omega
        have k1 : (m : Int) ≤ (b : Int) := by omega
        have k2 : (m : Int) < (T.length : Int) := by omega
        have k3 : (0 : Int) ≤ (m : Int) := by omega
        clear hm hle
        cases u with
        | true =>
          go_enter Try.func33, Try.ntmps33
          go_wp2_with fail
          refine (HS.out w).mono ?_
          rintro e w1 ⟨⟨v1, rfl, hS1⟩, hb1⟩
          obtain ⟨A1, c1, rfl, hr1⟩ := sl_len hS1
          obtain ⟨bb, off, rfl, hbb, e0, e1, e2, e3⟩ := hr1.cl hml
          rw [← HU.out] at e2
          clear hS1 hr1
          go_wp2_with fail
          go_ret
          exact ⟨rfl, hb1⟩
        | false =>
          go_enter Try.func33, Try.ntmps33
          go_wp2_with fail
          refine (HS.out w).mono ?_
          rintro e w1 ⟨⟨v1, rfl, hS1⟩, hb1⟩
          obtain ⟨A1, c1, rfl, hr1⟩ := sl_len hS1
          obtain ⟨bb, off, rfl, hbb, e0, e1, e2, e3⟩ := hr1.cl hml
          rw [← HU.out] at e2
          clear hS1 hr1
          go_wp2_with fail
          go_ret
          exact ⟨rfl, hb1⟩
      · obtain rfl : m = b := by omega
        have k1 : ¬ (a : Int) ≤ (m : Int) := by omega
        have k1' : (m : Int) ≤ (a : Int) := by omega
        have k2 : (m : Int) < (T.length : Int) := by omega
        have k3 : (0 : Int) ≤ (m : Int) := by omega
        clear hm hle
        cases u with
        | true =>
          go_enter Try.func33, Try.ntmps33
          go_wp2_with fail
          refine (HS.out w).mono ?_
          rintro e w1 ⟨⟨v1, rfl, hS1⟩, hb1⟩
          obtain ⟨A1, c1, rfl, hr1⟩ := sl_len hS1
          obtain ⟨bb, off, rfl, hbb, e0, e1, e2, e3⟩ := hr1.cl hml
          rw [← HU.out] at e2
          clear hS1 hr1
          go_wp2_with fail
          go_ret
          exact ⟨rfl, hb1⟩
        | false =>
          go_enter Try.func33, Try.ntmps33
          go_wp2_with fail
          refine (HS.out w).mono ?_
          rintro e w1 ⟨⟨v1, rfl, hS1⟩, hb1⟩
          obtain ⟨A1, c1, rfl, hr1⟩ := sl_len hS1
          obtain ⟨bb, off, rfl, hbb, e0, e1, e2, e3⟩ := hr1.cl hml
          rw [← HU.out] at e2
          clear hS1 hr1
          go_wp2_with fail
          go_ret
          exact ⟨rfl, hb1⟩
end Go.Proofs.Ytdpfnhkhojiddaa
