/- Stamps: how many stacks there are, the reference's. No condition but sizes. Stamps: how many stacks there are, the reference's. No condition but sizes. -/
import Derived.Test.YtkdlipbegdiaaaaGreatDoorEzBP35
import Derived.Test.YtkdlipbegdiaaaaGreatDoorEzBP31
import Derived.Test.YtkdlipbegdiaaaaGreatDoorEzBP32
namespace Go.Proofs.YtkdlipbegdiaaaaGreatDoor
open Go.RowKit
theorem posQI_true {lv : List Int} {k : Nat} (h : ∀ m, m < k → (k - m) % 2 = 0 → crsZ lv k m = false) : posQI lv k = true := by
  unfold posQI
  rw [List.all_eq_true]
  intro m hm
  rw [List.mem_range] at hm
  by_cases c : (k - m) % 2 = 0
  · rw [h m hm c]; simp
  · rw [decide_eq_false c]; rfl
theorem posQB_true {lv : List Int} {n : Nat} (h : ∀ k, k + 1 < n → posQI lv k = true) : posQB lv n = true := by
  unfold posQB
  rw [List.all_eq_true]
  intro k _
  by_cases c : k + 1 < n
  · rw [h k c]; simp
  · rw [decide_eq_false c]; rfl
theorem posQB_false {lv : List Int} {n k m : Nat} (h1 : m < k) (h2 : k + 1 < n) (h3 : (k - m) % 2 = 0) (h4 : crsZ lv k m = true) : posQB lv n = false := by
  have hi : posQI lv k = false := by
    unfold posQI
    rw [List.all_eq_false]
    refine ⟨m, List.mem_range.2 h1, ?_⟩
    rw [h4, decide_eq_true h3]; decide
  unfold posQB
  rw [List.all_eq_false]
  refine ⟨k, List.mem_range.2 (by omega), ?_⟩
  rw [hi, decide_eq_true h2]; decide
theorem betB_lohi {p x y lo hi : Int} (h1 : lo = min x y) (h2 : hi = max x y) : betB p x y = (decide (lo < p) && decide (p < hi)) := by
  unfold betB; rw [h1, h2]
set_option maxHeartbeats 4000000 in
set_option maxRecDepth 100000 in
theorem spec_l3Possible (A : Option Addr) (cap : Nat) (L : List Int) (w : World) (h : Ints w A L) (hl : L.length ≤ 100) (hok : ∀ j, j < L.length → 0 ≤ lvAt L L.length (j : Int)) :
    Calls Tryz.prog 147 #[.slice A L.length cap] w fun e w' => e = .returned (.bool (posQ L)) ∧ Below w.heap.size w w' := by
  have HLV := Lib.hid (spec_l2Levels A cap L.length L w h (by omega) hl hok)
  obtain ⟨lv, hlv⟩ : ∃ lv, lv = lvTo L L.length L.length := ⟨_, rfl⟩
  have hll : lv.length = L.length := by rw [hlv, lvTo_len]
  have HP : Hid (posQ L = posQB lv L.length) := by show _ = _; unfold posQ; rw [hlv]
  rw [← hlv] at HLV
  obtain ⟨n, hn⟩ : ∃ n, n = L.length := ⟨_, rfl⟩
  rw [← hn] at HLV HP hll hl ⊢
  have HLL := Lib.hid hll
  clear hll hn hlv h hok
  go_enter Tryz.func147, Tryz.ntmps147
  go_wp2_with fail
  refine HLV.out.mono ?_
  rintro e w1 ⟨v1, rfl, ho1, hb1⟩
  obtain ⟨A1, c1, rfl, hi1, _, _⟩ := Own.form ho1
  have HI := Lib.hid hi1
  have HB1 := Lib.hid hb1
  rw [HLL.out]
  clear ho1 hi1 hb1 HLV
  go_wp2_with fail
  go_loopg [4, 5, 6, 7, 8, 9] (n + 1) (fun g s4 s5 s6 s7 s8 s9 wr => ∃ (k u : Nat), s5 = s5 ∧ s6 = s6 ∧ s7 = s7 ∧ s8 = s8 ∧ s9 = s9 ∧ k ≤ n ∧ s4 = .int .i64 k ∧ n - k < g ∧ Hid (∀ k', k' < k → k' + 1 < n → posQI lv k' = true) ∧ Hid (wr = w1.drewN u))
  case atStart => exact ⟨0, 0, rfl, rfl, rfl, rfl, rfl, Nat.zero_le _, rfl, by omega, (by intro k' hk'; omega : ∀ k', k' < 0 → k' + 1 < n → posQI lv k' = true), rfl⟩
  case round =>
    obtain ⟨k, u, _, _, _, _, _, hk, rfl, hg, HK, HW⟩ := hrel
    cases gk with
    | zero => omega
    | succ g =>
    have kw1 : IntKind.i64.wrap ((k : Int) + 1) = (k : Int) + 1 := IntWalk.i64_in _ (by omega)
    by_cases hlt : k + 1 < n
    · have k1 : (k : Int) + 1 < (n : Int) := by omega
      have k2 : (k : Int) < (n : Int) := by omega
      have k3 : ((k : Int) + 1).toNat = k + 1 := by omega
      have k4 : (0 : Int) ≤ (k : Int) := by omega
      have k5 : (0 : Int) ≤ (k : Int) + 1 := by omega
      obtain ⟨mm1, mm2⟩ := mod2z k
      obtain ⟨k0, hk0⟩ : ∃ k0, k0 = k % 2 := ⟨_, rfl⟩
      rw [← hk0] at mm1 mm2
      obtain ⟨b, off, hA, hb, hcell⟩ := HI.out (by intro e; have := HLL.out; rw [e] at this; simp at this; omega)
      have HC : Hid (∀ (j v : Nat), j < n → (w1.drewN v).cell? ⟨b, off + j, none⟩ = some (.int .i64 (lv.getD j 0))) := fun j v hj => hcell j _ (getD_of (by rw [HLL.out]; exact hj))
      subst hA
      obtain ⟨x, hx⟩ : ∃ x, x = lv.getD k 0 := ⟨_, rfl⟩
      obtain ⟨y, hy⟩ : ∃ y, y = lv.getD (k + 1) 0 := ⟨_, rfl⟩
      obtain ⟨lo, hlo⟩ : ∃ lo, lo = min x y := ⟨_, rfl⟩
      obtain ⟨hi, hhi⟩ : ∃ hi, hi = max x y := ⟨_, rfl⟩
      have q1 : (if y < x then y else x) = lo := by rw [hlo]; split <;> omega
      have q2 : (if x < y then y else x) = hi := by rw [hhi]; split <;> omega
      have HXY : Hid (∀ o, crsZ lv k o = ((decide (lo < lv.getD o 0) && decide (lv.getD o 0 < hi)) != (decide (lo < lv.getD (o + 1) 0) && decide (lv.getD (o + 1) 0 < hi)))) := fun o => by unfold crsZ; rw [← hx, ← hy, betB_lohi hlo hhi, betB_lohi hlo hhi]
      have HX : Hid (∀ v, (w1.drewN v).cell? ⟨b, off + k, none⟩ = some (.int .i64 x)) := fun v => by rw [hx]; exact HC.out k v (by omega)
      have HY : Hid (∀ v, (w1.drewN v).cell? ⟨b, off + (k + 1), none⟩ = some (.int .i64 y)) := fun v => by rw [hy]; exact HC.out (k + 1) v hlt
      have HQ := Lib.hid (And.intro q1 q2)
      have hO0 : Hid (∀ m, m < k0 → m < k → (k - m) % 2 = 0 → crsZ lv k m = false) := (by intro m h1 h2; omega : ∀ m, m < k0 → m < k → (k - m) % 2 = 0 → crsZ lv k m = false)
      have hk00 : k0 ≤ k ∧ (k - k0) % 2 = 0 := by omega
      obtain ⟨hk01, hk02⟩ := hk00
      clear hx hy hcell hk0 hlo hhi q1 q2
      go_wp2_with fail
      go_loopg [5, 6, 7, 8, 9] (n + 3) (fun gq s5 s6 s7 s8 s9 wq => ∃ (o v : Nat), s6 = s6 ∧ s7 = s7 ∧ s8 = s8 ∧ s9 = s9 ∧ o ≤ k + 1 ∧ (k + 2 - o) % 2 = 0 ∧ s5 = .int .i64 o ∧ n + 2 - o < gq ∧ Hid (∀ m, m < o → m < k → (k - m) % 2 = 0 → crsZ lv k m = false) ∧ Hid (wq = w1.drewN v))
      case atStart => exact ⟨k0, u, rfl, rfl, rfl, rfl, by omega, by omega, rfl, by omega, hO0, HW⟩
      case round =>
        clear hO0
        obtain ⟨o, v, _, _, _, _, ho1, ho3, rfl, hgq, HO, HV⟩ := hrel
        cases gk with
        | zero => omega
        | succ gq =>
        have ow1 : IntKind.i64.wrap ((o : Int) + 1) = (o : Int) + 1 := IntWalk.i64_in _ (by omega)
        have ow2 : IntKind.i64.wrap ((o : Int) + 2) = ((o + 2 : Nat) : Int) := by rw [IntWalk.i64_in _ (by omega)]; omega
        by_cases hol : o < k
        · have o1 : (o : Int) < (k : Int) := by omega
          have o2 : (o : Int) < (n : Int) := by omega
          have o6 : (o : Int) + 1 < (n : Int) := by omega
          have o3 : ((o : Int) + 1).toNat = o + 1 := by omega
          have o4 : (0 : Int) ≤ (o : Int) := by omega
          have o5 : (0 : Int) ≤ (o : Int) + 1 := by omega
          have hpar : (k - o) % 2 = 0 := by omega
          have r2 : wr.cell? ⟨b, off + k, none⟩ = some (.int .i64 x) := by rw [HV.out]; exact HX.out v
          have r3 : wr.cell? ⟨b, off + (k + 1), none⟩ = some (.int .i64 y) := by rw [HV.out]; exact HY.out v
          obtain ⟨q1, q2⟩ := HQ.out
          go_wp2_with fail
          go_quiet (fail)
          obtain ⟨wB, hwB⟩ : ∃ wB, wB = wr.drewN nq := ⟨_, rfl⟩
          obtain ⟨nA, hnA⟩ : ∃ z, z = nq := ⟨_, rfl⟩
          have HW2 : Hid (wB = w1.drewN (v + nA)) := by show _ = _; rw [hwB, HV.out, hnA]; exact World.drewN_drewN _ _ _
          rw [← hwB]
          clear r2 r3 hwB hnA
          have r2 : wB.cell? ⟨b, off + k, none⟩ = some (.int .i64 x) := by rw [HW2.out]; exact HX.out _
          have r3 : wB.cell? ⟨b, off + (k + 1), none⟩ = some (.int .i64 y) := by rw [HW2.out]; exact HY.out _
          go_wp2_with fail
          go_quiet (fail)
          obtain ⟨wC, hwC⟩ : ∃ wC, wC = wB.drewN nq := ⟨_, rfl⟩
          obtain ⟨nB, hnB⟩ : ∃ z, z = nq := ⟨_, rfl⟩
          have HW3 : Hid (wC = w1.drewN (v + nA + nB)) := by show _ = _; rw [hwC, HW2.out, hnB]; exact World.drewN_drewN _ _ _
          rw [← hwC]
          clear r2 r3 hwC hnB q1 q2
          obtain ⟨p, hp⟩ : ∃ p, p = lv.getD o 0 := ⟨_, rfl⟩
          obtain ⟨q, hq⟩ : ∃ q, q = lv.getD (o + 1) 0 := ⟨_, rfl⟩
          have HCR : Hid (crsZ lv k o = ((decide (lo < p) && decide (p < hi)) != (decide (lo < q) && decide (q < hi)))) := by show _ = _; rw [HXY.out, hp, hq]
          have r4 : wC.cell? ⟨b, off + o, none⟩ = some (.int .i64 p) := by rw [hp, HW3.out]; exact HC.out o _ (by omega)
          have r5 : wC.cell? ⟨b, off + (o + 1), none⟩ = some (.int .i64 q) := by rw [hq, HW3.out]; exact HC.out (o + 1) _ (by omega)
          clear hp hq
          by_cases gp1 : lo < p
          · by_cases gp2 : p < hi
            · by_cases gq1 : lo < q
              · by_cases gq2 : q < hi
                · have p1 : decide (lo < p) = true := by simpa using gp1
                  have p2 : decide (p < hi) = true := by simpa using gp2
                  have q1 : decide (lo < q) = true := by simpa using gq1
                  have q2 : decide (q < hi) = true := by simpa using gq2
                  rw [p1, p2, q1, q2] at HCR
                  clear gp1 gp2 gq1 gq2
                  have HO2 : Hid (∀ m, m < o + 2 → m < k → (k - m) % 2 = 0 → crsZ lv k m = false) := (by
                    intro m h1 h2 h3
                    by_cases e : m = o
                    · subst e; exact HCR.out
                    · exact HO.out m (by omega) h2 h3 : ∀ m, m < o + 2 → m < k → (k - m) % 2 = 0 → crsZ lv k m = false)
                  go_wp2_with fail
                  go_roundg gq
                  case measure => omega
                  case rel => exact ⟨o + 2, v + nA + nB, trivial, trivial, trivial, trivial, by omega, by omega, by go_num, by omega, HO2, HW3⟩
                · have p1 : decide (lo < p) = true := by simpa using gp1
                  have p2 : decide (p < hi) = true := by simpa using gp2
                  have q1 : decide (lo < q) = true := by simpa using gq1
                  have q2 : decide (q < hi) = false := by simpa using gq2
                  rw [p1, p2, q1, q2] at HCR
                  clear gp1 gp2 gq1 gq2
                  have HE : Hid (posQB lv n = false) := posQB_false hol hlt hpar HCR.out
                  go_wp2_with fail
                  go_ret
                  exact ⟨ret_bool (by rw [HP.out, HE.out]), by rw [HW3.out]; exact below_drewN HB1.out _⟩
              · have p1 : decide (lo < p) = true := by simpa using gp1
                have p2 : decide (p < hi) = true := by simpa using gp2
                have q1 : decide (lo < q) = false := by simpa using gq1
                rw [p1, p2, q1] at HCR
                clear gp1 gp2 gq1
                have HE : Hid (posQB lv n = false) := posQB_false hol hlt hpar HCR.out
                go_wp2_with fail
                go_ret
                exact ⟨ret_bool (by rw [HP.out, HE.out]), by rw [HW3.out]; exact below_drewN HB1.out _⟩
            · by_cases gq1 : lo < q
              · by_cases gq2 : q < hi
                · have p1 : decide (lo < p) = true := by simpa using gp1
                  have p2 : decide (p < hi) = false := by simpa using gp2
                  have q1 : decide (lo < q) = true := by simpa using gq1
                  have q2 : decide (q < hi) = true := by simpa using gq2
                  rw [p1, p2, q1, q2] at HCR
                  clear gp1 gp2 gq1 gq2
                  have HE : Hid (posQB lv n = false) := posQB_false hol hlt hpar HCR.out
                  go_wp2_with fail
                  go_ret
                  exact ⟨ret_bool (by rw [HP.out, HE.out]), by rw [HW3.out]; exact below_drewN HB1.out _⟩
                · have p1 : decide (lo < p) = true := by simpa using gp1
                  have p2 : decide (p < hi) = false := by simpa using gp2
                  have q1 : decide (lo < q) = true := by simpa using gq1
                  have q2 : decide (q < hi) = false := by simpa using gq2
                  rw [p1, p2, q1, q2] at HCR
                  clear gp1 gp2 gq1 gq2
                  have HO2 : Hid (∀ m, m < o + 2 → m < k → (k - m) % 2 = 0 → crsZ lv k m = false) := (by
                    intro m h1 h2 h3
                    by_cases e : m = o
                    · subst e; exact HCR.out
                    · exact HO.out m (by omega) h2 h3 : ∀ m, m < o + 2 → m < k → (k - m) % 2 = 0 → crsZ lv k m = false)
                  go_wp2_with fail
                  go_roundg gq
                  case measure => omega
                  case rel => exact ⟨o + 2, v + nA + nB, trivial, trivial, trivial, trivial, by omega, by omega, by go_num, by omega, HO2, HW3⟩
              · have p1 : decide (lo < p) = true := by simpa using gp1
                have p2 : decide (p < hi) = false := by simpa using gp2
                have q1 : decide (lo < q) = false := by simpa using gq1
                rw [p1, p2, q1] at HCR
                clear gp1 gp2 gq1
                have HO2 : Hid (∀ m, m < o + 2 → m < k → (k - m) % 2 = 0 → crsZ lv k m = false) := (by
                  intro m h1 h2 h3
                  by_cases e : m = o
                  · subst e; exact HCR.out
                  · exact HO.out m (by omega) h2 h3 : ∀ m, m < o + 2 → m < k → (k - m) % 2 = 0 → crsZ lv k m = false)
                go_wp2_with fail
                go_roundg gq
                case measure => omega
                case rel => exact ⟨o + 2, v + nA + nB, trivial, trivial, trivial, trivial, by omega, by omega, by go_num, by omega, HO2, HW3⟩
          · by_cases gq1 : lo < q
            · by_cases gq2 : q < hi
              · have p1 : decide (lo < p) = false := by simpa using gp1
                have q1 : decide (lo < q) = true := by simpa using gq1
                have q2 : decide (q < hi) = true := by simpa using gq2
                rw [p1, q1, q2] at HCR
                clear gp1 gq1 gq2
                have HE : Hid (posQB lv n = false) := posQB_false hol hlt hpar HCR.out
                go_wp2_with fail
                go_ret
                exact ⟨ret_bool (by rw [HP.out, HE.out]), by rw [HW3.out]; exact below_drewN HB1.out _⟩
              · have p1 : decide (lo < p) = false := by simpa using gp1
                have q1 : decide (lo < q) = true := by simpa using gq1
                have q2 : decide (q < hi) = false := by simpa using gq2
                rw [p1, q1, q2] at HCR
                clear gp1 gq1 gq2
                have HO2 : Hid (∀ m, m < o + 2 → m < k → (k - m) % 2 = 0 → crsZ lv k m = false) := (by
                  intro m h1 h2 h3
                  by_cases e : m = o
                  · subst e; exact HCR.out
                  · exact HO.out m (by omega) h2 h3 : ∀ m, m < o + 2 → m < k → (k - m) % 2 = 0 → crsZ lv k m = false)
                go_wp2_with fail
                go_roundg gq
                case measure => omega
                case rel => exact ⟨o + 2, v + nA + nB, trivial, trivial, trivial, trivial, by omega, by omega, by go_num, by omega, HO2, HW3⟩
            · have p1 : decide (lo < p) = false := by simpa using gp1
              have q1 : decide (lo < q) = false := by simpa using gq1
              rw [p1, q1] at HCR
              clear gp1 gq1
              have HO2 : Hid (∀ m, m < o + 2 → m < k → (k - m) % 2 = 0 → crsZ lv k m = false) := (by
                intro m h1 h2 h3
                by_cases e : m = o
                · subst e; exact HCR.out
                · exact HO.out m (by omega) h2 h3 : ∀ m, m < o + 2 → m < k → (k - m) % 2 = 0 → crsZ lv k m = false)
              go_wp2_with fail
              go_roundg gq
              case measure => omega
              case rel => exact ⟨o + 2, v + nA + nB, trivial, trivial, trivial, trivial, by omega, by omega, by go_num, by omega, HO2, HW3⟩
        · have HK2 : Hid (∀ k', k' < k + 1 → k' + 1 < n → posQI lv k' = true) := (by
            intro k' h1 h2
            by_cases e : k' = k
            · subst e; exact posQI_true fun m h3 h4 => HO.out m (by omega) h3 h4
            · exact HK.out k' (by omega) h2 : ∀ k', k' < k + 1 → k' + 1 < n → posQI lv k' = true)
          have o1 : ¬ ((o : Int) < (k : Int)) := by omega
          go_wp2_with fail
          go_roundg g
          case measure => omega
          case rel => exact ⟨k + 1, v, trivial, trivial, trivial, trivial, trivial, by omega, by go_num, by omega, HK2, HV⟩
    · have HE : Hid (posQB lv n = true) := posQB_true fun k' h2 => HK.out k' (by omega) h2
      have k1 : ¬ ((k : Int) + 1 < (n : Int)) := by omega
      go_wp2_with fail
      go_ret
      exact ⟨ret_bool (by rw [HP.out, HE.out]), by rw [HW.out]; exact below_drewN HB1.out _⟩
end Go.Proofs.YtkdlipbegdiaaaaGreatDoor
namespace Go.Proofs.YtkdlipbegdiaaaaGreatDoor
open Go.RowKit
set_option maxHeartbeats 4000000 in
set_option maxRecDepth 100000 in
theorem spec_l3All (n : Nat) (h1 : 1 ≤ n) (h7 : n ≤ 7) (w : World) :
    Calls Tryz.prog 120 #[.int .i64 n] w fun e w' => ∃ A' c, e = .returned (.slice A' (stkN n) c) ∧ Below w.heap.size w w' := by
  obtain ⟨LL, hLL⟩ : ∃ LL, LL = genO n n [] := ⟨_, rfl⟩
  have hOrd : ∀ L, L ∈ LL → OrdF n L := by rw [hLL]; exact ord_seven h1 h7
  have hcnt : (LL.filter posQ).length = stkN n := by rw [hLL]; exact posQ_count h1 h7
  have hlen : LL.length ≤ 823543 := by
    have h1 := genO_len n (by omega) n []
    have h2 : 7 ^ n ≤ 7 ^ 7 := Nat.pow_le_pow_right (by omega) (by omega)
    rw [hLL]; omega
  have HALL := Lib.hid (fun (W : World) (A0 : Option Addr) (c0 : Nat) (H : Nat) (hH : H ≤ W.heap.size) (h0 : ∀ b off, A0 = some ⟨b, off, none⟩ → H ≤ b) => spec_l2All n (by omega) (by omega) n A0 c0 [] W H (by simp) (Ints.nil _ _) hH h0)
  rw [← hLL] at HALL
  have HRT : Hid (∀ (W : World) (A' : Option Addr) (c' : Nat) (L : List Int), L ∈ LL → Ints W A' L → Calls Tryz.prog 147 #[.slice A' L.length c'] W fun e w' => e = .returned (.bool (posQ L)) ∧ Below W.heap.size W w') := by
    show ∀ (W : World) (A' : Option Addr) (c' : Nat) (L : List Int), _
    intro W A' c' L hL hI
    have ho := hOrd L hL
    exact spec_l3Possible A' c' L W hI (by rw [ho.len]; omega) (fun j hj => by rw [ho.len]; exact ho.lv j (by rw [← ho.len]; exact hj))
  have HC := Lib.hid hcnt
  have HLN := Lib.hid hlen
  clear hcnt hlen hOrd hLL h1 h7
  go_enter Tryz.func120, Tryz.ntmps120
  go_wp2_with fail
  refine (HALL.out _ _ _ (w.heap.size + 1) (by simp) (by intro b off e; injection e with e; injection e with e1 e2; subst e1; simp)).mono ?_
  rintro e w2 ⟨v2, VL, rfl, hO2, hT2, hb2⟩
  have hq : ∀ g, v2.ownBlock = some g → w.heap.size < g ∧ g < w2.heap.size := fun g e => by
    have := hO2.lt g e
    simp at this
    omega
  obtain ⟨A6, c6, rfl, hr6, _, _⟩ := own_formX hO2
  have hVL : VL.length = LL.length := hT2.1
  have HRA : Hid (RowA w2 (some w.heap.size) A6 VL) := ⟨hr6, fun b off e => by
    have := hq b (by rw [e]; rfl)
    exact ⟨this.2, fun e2 => by injection e2; omega⟩⟩
  have HTL : Hid (Tol w2 (w.heap.size + 1) (some w.heap.size) VL LL) := hT2.low (Nat.le_refl _) (fun g e => by injection e; omega)
  have HB2 : Hid (Below w.heap.size w w2) := (Below.refl w.heap.size w).alloc (Nat.le_refl _) _ |>.alloc (by simp) _ |>.trans (hb2.mono (by simp; omega))
  have HO0 : Hid (OwnW w2 w.heap.size (.slice (some ⟨w.heap.size, 0, none⟩) 0 0) 0 []) := own_belowX (own_belowX (World.ownsRow_lit w #[] 0 (Nat.le_refl _) (by unfold maxLen; omega) rfl) ((Below.refl _ _).alloc (Nat.le_refl _) _)) hb2
  clear hO2 hT2 hb2 hq hr6
  go_wp2_with fail
  go_loopg [3, 5] (LL.length + 1) (fun g s3 s5 wr => ∃ (k : Nat) (VO : List Value), k ≤ LL.length ∧ s5 = .int .i64 k ∧ LL.length - k < g ∧ Hid (OwnW wr w.heap.size s3 ((LL.take k).filter posQ).length VO) ∧ Hid (Tol wr (w.heap.size + 1) s3.ownBlock VL LL) ∧ Hid (RowA wr s3.ownBlock A6 VL) ∧ Hid (Below w.heap.size w wr))
  case atStart => exact ⟨0, [], by omega, rfl, by omega, HO0, HTL, HRA, HB2⟩
  case round =>
    clear HO0 HTL HRA HB2
    obtain ⟨k, VO, hk, rfl, hg, HO, HT, HR, HB⟩ := hrel
    cases gk with
    | zero => omega
    | succ gl =>
    have hl46 := HLN.out
    have kw2 : IntKind.i64.wrap ((k : Int) + 1) = (k : Int) + 1 := IntWalk.i64_in _ (by omega)
    by_cases hlt : k < LL.length
    · have k1 : (k : Int) < (LL.length : Int) := by omega
      obtain ⟨u, hu⟩ : ∃ u, VL[k]? = some u := ⟨_, List.getElem?_eq_getElem (by omega)⟩
      obtain ⟨L, hL⟩ : ∃ L, L = LL[k] := ⟨_, rfl⟩
      obtain ⟨b2, o2, c2, rfl, hi2, _, hb2, _⟩ := HT.out.2 k u _ hu (List.getElem?_eq_getElem hlt)
      obtain ⟨b, off, rfl, hb, hc⟩ := HR.out.1 (show VL ≠ [] from fun e => by rw [e] at hu; simp at hu)
      have hcell := hc k _ hu
      have hstep := take_filter_succ posQ LL k hlt
      rw [← hL] at hi2 hcell hstep
      have HRT2 := Lib.hid (HRT.out wr (some ⟨b2, o2, none⟩) c2 L (by rw [hL]; exact List.getElem_mem hlt) hi2)
      have HST := Lib.hid hstep
      have hfl : ((LL.take k).filter posQ).length ≤ 823543 := Nat.le_trans (List.length_filter_le _ _) (by rw [List.length_take]; omega)
      have HFL := Lib.hid hfl
      clear hi2 hc hu hL hstep hfl
      go_wp2_with fail
      refine HRT2.out.mono ?_
      rintro e w3 ⟨rfl, hb3⟩
      have hcell3 : w3.cell? ⟨b, off + k, none⟩ = some (.slice (some ⟨b2, o2, none⟩) L.length c2) := (hb3.cell (p := ⟨b, off + k, none⟩) hb).trans hcell
      have HB3 := Lib.hid hb3
      have hzr : w.heap.size ≤ wr.heap.size := HB.out.size
      clear hb3
      cases hp : posQ L with
      | false =>
        rw [hp] at HST
        clear hp
        go_wp2_with fail
        go_roundg gl
        case measure => omega
        case rel => exact ⟨k + 1, VO, by omega, by go_num, by omega, by rw [HST.out]; exact own_belowX HO.out HB3.out, HT.out.below HB3.out, HR.out.below HB3.out, HB.out.trans (HB3.out.mono hzr)⟩
      | true =>
        rw [hp] at HST
        clear hp
        go_wp2_with (at_builtin; go_loud (refine wpList_appW (W := w3.alloc (.cells #[.slice (some ⟨b2, o2, none⟩) L.length c2] 23)) rfl _ _ rfl w.heap.size _ _ VO _ 1 _ [.slice (some ⟨b2, o2, none⟩) L.length c2] (by rfl) (by rfl) (own_belowX HO.out (HB3.out.alloc HB3.out.size _)) rfl (fun e => by cases e) (RowV.lit w3 [.slice (some ⟨b2, o2, none⟩) L.length c2] _).news (fun u hu => by rw [List.mem_singleton] at hu; subst hu; rfl) (Nat.le_trans hzr (HB3.out.alloc HB3.out.size _).size) (Nat.le_trans (Nat.add_le_add_right HFL.out 1) (by omega)) ?_))
        intro vC wC hC hgC hbC hmC hrC
        have hBA : Below wr.heap.size wr (w3.alloc (.cells #[.slice (some ⟨b2, o2, none⟩) L.length c2] 23)) := HB3.out.alloc HB3.out.size _
        have HC1 : Hid (OwnW wC w.heap.size vC ((LL.take (k + 1)).filter posQ).length (VO ++ [.slice (some ⟨b2, o2, none⟩) L.length c2])) := by show OwnW _ _ _ _ _; rw [HST.out]; exact hC
        have HC2 : Hid (Tol wC (w.heap.size + 1) vC.ownBlock VL LL) := (HT.out.below hBA).appended hgC hmC
        have HC3 : Hid (RowA wC vC.ownBlock (some ⟨b, off, none⟩) VL) := (HR.out.below hBA).appended hgC hmC
        have HC4 : Hid (Below w.heap.size w wC) := HB.out.trans ((hBA.mono hzr).trans hbC)
        clear hC hgC hbC hmC hrC hBA
        go_wp2_with fail
        go_roundg gl
        case measure => omega
        case rel => exact ⟨k + 1, _, by omega, by go_num, by omega, HC1, HC2, HC3, HC4⟩
    · obtain rfl : k = LL.length := by omega
      have HOE := HO.out
      rw [List.take_length, HC.out] at HOE
      obtain ⟨A7, c7, rfl, _, _, _⟩ := own_formX HOE
      clear HOE
      go_wp2_with fail
      go_ret
      exact ⟨A7, c7, rfl, HB.out⟩
set_option maxHeartbeats 400000 in
theorem spec_l6In3 (n : Int) (w : World) :
    Calls Tryz.prog 66 #[.int .i64 n, .int .i64 1, .int .i64 7] w fun e w' => e = .returned (.bool (decide (1 ≤ n) && decide (n ≤ 7))) ∧ w = w' := by
  by_cases h1 : 1 ≤ n
  · have d1 : decide (1 ≤ n) = true := by simpa using h1
    rw [d1]
    by_cases h2 : n ≤ 7
    · have d2 : decide (n ≤ 7) = true := by simpa using h2
      rw [d2]
      clear h1 h2
      go_enter Tryz.func66, Tryz.ntmps66
      go_wp2_with fail
      go_ret
      exact ⟨rfl, rfl⟩
    · have d2 : decide (n ≤ 7) = false := by simpa using h2
      rw [d2]
      clear h1 h2
      go_enter Tryz.func66, Tryz.ntmps66
      go_wp2_with fail
      go_ret
      exact ⟨rfl, rfl⟩
  · have d1 : decide (1 ≤ n) = false := by simpa using h1
    rw [d1]
    clear h1
    go_enter Tryz.func66, Tryz.ntmps66
    go_wp2_with fail
    go_ret
    exact ⟨rfl, rfl⟩
set_option maxHeartbeats 400000 in
theorem spec_StampMany_no (n : Int) (h : ¬ (1 ≤ n ∧ n ≤ 7)) (w : World) :
    Calls Tryz.prog 91 #[.int .i64 n] w fun e w' => e = .returned (.int .i64 (-1)) ∧ w = w' := by
  have HR := Lib.hid (spec_l6In3 n w)
  have hb : (decide (1 ≤ n) && decide (n ≤ 7)) = false := by
    cases h1 : (decide (1 ≤ n) && decide (n ≤ 7)) with
    | false => rfl
    | true =>
      simp only [Bool.and_eq_true, decide_eq_true_eq] at h1
      exact absurd h1 h
  rw [hb] at HR
  clear h hb
  go_enter Tryz.func91, Tryz.ntmps91
  go_wp2_with fail
  refine HR.out.mono ?_
  rintro e _ ⟨rfl, rfl⟩
  go_wp2_with fail
  go_ret
  exact ⟨rfl, rfl⟩
set_option maxHeartbeats 400000 in
theorem spec_StampMany (n : Nat) (h1 : 1 ≤ n) (h7 : n ≤ 7) (w : World) :
    Calls Tryz.prog 91 #[.int .i64 n] w fun e w' => e = .returned (.int .i64 (stkN n : Nat)) ∧ Below w.heap.size w w' := by
  have HR := Lib.hid (spec_l6In3 (n : Int) w)
  rw [decide_eq_true (show (1 : Int) ≤ (n : Int) by omega), decide_eq_true (show (n : Int) ≤ 7 by omega)] at HR
  have HA := Lib.hid (spec_l3All n h1 h7 w)
  obtain ⟨z, hz⟩ : ∃ z, z = stkN n := ⟨_, rfl⟩
  rw [← hz] at HA ⊢
  clear h1 h7 hz
  go_enter Tryz.func91, Tryz.ntmps91
  go_wp2_with fail
  refine HR.out.mono ?_
  rintro e _ ⟨rfl, rfl⟩
  go_wp2_with fail
  refine HA.out.mono ?_
  rintro e w2 ⟨A', c, rfl, hb⟩
  have HB := Lib.hid hb
  clear hb
  go_wp2_with fail
  go_ret
  exact ⟨rfl, HB.out⟩
end Go.Proofs.YtkdlipbegdiaaaaGreatDoor
