/- The drawn pattern with folds. No condition but sizes. The program's VertexCrimps and VertexCrimp. No condition but sizes. The reference's VertexCrimps and VertexCrimp: as the program's. No condition but sizes. countVertices with the program's test for a crimp; PatternCrimp, the program's and the reference's. No condition but sizes. -/
import Derived.Test.YtnccpifdajcejaaDrawQ
import Derived.Test.YtnccpifdajcejaaFnPatternWithoutP42
import Derived.Test.YtnccpifdajcejaaDrawA
import Derived.Test.YtnccpifdajcejaaImplB
import Derived.Test.YtnccpifdajcejaaImplC
import Derived.Test.YtnccpifdajcejaaFnPatternWithoutP41
namespace Go.Proofs.Ytnccpifdajcejaa
open Go.RowKit

theorem pcI_bd (vs : List Vx) : -1 ≤ pcI vs ∧ pcI vs ≤ 10 := by
  unfold pcI
  cases hp : patB vs with
  | false => simp
  | true =>
    obtain ⟨_, _, _, _, h0, h10⟩ := patB_parts hp
    rw [if_pos rfl]; omega
theorem txt_size' (n k : Nat) : (txt n k).size = n := by
  first | exact txt_size n k | (unfold txt; rw [ByteArray.size]; simp)
theorem pfT_size (vs : List Vx) : (pfT vs).size ≤ 10 := by
  unfold pfT pfo
  cases hp : patB vs with
  | false => simp
  | true =>
    obtain ⟨_, _, _, _, h0, h10⟩ := patB_parts hp
    simp only [if_true]
    split
    · rw [txt_size']; omega
    · simp

set_option maxHeartbeats 1000000 in
theorem spec_FoldsSwapN (s : ByteArray) (w : World) (hs : s.size ≤ 1000) :
    Calls Try.prog 80 #[.string s] w fun e w' => (∃ t : ByteArray, e = .returned (.string t) ∧ t.size = s.size) ∧ w = w' := by
  go_enter Try.func80, Try.ntmps80
  go_wp2_with fail
  go_loop [3, 4] (fun s3 s4 => ∃ (k : Nat) (t : ByteArray), k ≤ s.size ∧ s4 = .int .i64 k ∧ s3 = .string t ∧ t.size ≤ 1000 ∧ Hid (t.size = k)) (fun _ s4 => s.size - (intOf s4).toNat)
  case atStart => exact ⟨0, _, Nat.zero_le _, rfl, rfl, by show 0 ≤ 1000; omega, rfl⟩
  case round =>
    obtain ⟨k, t, hk, rfl, rfl, ht, HT⟩ := hrel
    by_cases hlt : k < s.size
    · have k1 : (k : Int) < (s.size : Int) := by omega
      have k0 : (0 : Int) ≤ (k : Int) := by omega
      have k2 : (k : Int) ≤ (s.size : Int) := by omega
      have k3 : (k : Int) + 1 ≤ (s.size : Int) := by omega
      have k4 : (k : Int) ≤ (k : Int) + 1 := by omega
      have hx1 : (s.extract k (k + 1)).size = 1 := by rw [ByteArray.size_extract]; omega
      have a1 : ∀ W, (Op.stringOp .add t (ByteArray.mk #[86])).run Try.prog W = .ok (.string (t ++ ByteArray.mk #[86])) W := fun W => run_string_add_sum W _ _ (by show t.size + 1 ≤ _; omega)
      have a2 : ∀ W, (Op.stringOp .add t (ByteArray.mk #[77])).run Try.prog W = .ok (.string (t ++ ByteArray.mk #[77])) W := fun W => run_string_add_sum W _ _ (by show t.size + 1 ≤ _; omega)
      have a3 : ∀ W, (Op.stringOp .add t (s.extract k (k + 1))).run Try.prog W = .ok (.string (t ++ s.extract k (k + 1))) W := fun W => run_string_add_sum W _ _ (by rw [hx1]; omega)
      have z1 : Hid ((t ++ ByteArray.mk #[86]).size = k + 1) := by show _ = _; rw [ByteArray.size_append, HT.out]; rfl
      have z2 : Hid ((t ++ ByteArray.mk #[77]).size = k + 1) := by show _ = _; rw [ByteArray.size_append, HT.out]; rfl
      have z3 : Hid ((t ++ s.extract k (k + 1)).size = k + 1) := by show _ = _; rw [ByteArray.size_append, HT.out, hx1]
      have ht2 : k + 1 ≤ 1000 := by omega
      clear hx1
      obtain ⟨ch, hch⟩ : ∃ ch : UInt8, ch = s[k] := ⟨_, rfl⟩
      by_cases hM : ((ch.toNat : Int) == 77) = true
      · have hM2 : (((s[k] : UInt8).toNat : Int) == 77) = true := by rw [← hch]; exact hM
        clear hM hch
        go_wp2_with fail
        go_round
        case rel => exact ⟨k + 1, _, by omega, by go_num, rfl, by rw [z1.out]; exact ht2, z1⟩
        case measure => simp [intOf]; omega
      · have hM2 : (((s[k] : UInt8).toNat : Int) == 77) = false := by rw [← hch]; simpa using hM
        by_cases hV : ((ch.toNat : Int) == 86) = true
        · have hV2 : (((s[k] : UInt8).toNat : Int) == 86) = true := by rw [← hch]; exact hV
          clear hM hV hch
          go_wp2_with fail
          go_round
          case rel => exact ⟨k + 1, _, by omega, by go_num, rfl, by rw [z2.out]; exact ht2, z2⟩
          case measure => simp [intOf]; omega
        · have hV2 : (((s[k] : UInt8).toNat : Int) == 86) = false := by rw [← hch]; simpa using hV
          clear hM hV hch
          go_wp2_with fail
          go_round
          case rel => exact ⟨k + 1, _, by omega, by go_num, rfl, by rw [z3.out]; exact ht2, z3⟩
          case measure => simp [intOf]; omega
    · obtain rfl : k = s.size := by omega
      go_wp2_with fail
      go_ret
      exact ⟨⟨t, rfl, HT.out⟩, rfl⟩

/-- a drawn list of vertices and a text -/
def FoldR (w : World) (r : Nat) (A : Option Addr) (cap : Nat) (bs : List UInt8) (q : Nat) (e : Ending) (w' : World) : Prop :=
  ∃ (B : Option Addr) (vs : List Vx) (c : Nat) (s : ByteArray) (q' : Nat), e = .returned (.tuple #[.slice B vs.length c, .string s]) ∧ VertsF w' w.heap.size B vs ∧ vs.length ≤ 2 ∧ vs.length ≤ c ∧ c ≤ maxLen ∧ (∀ v ∈ vs, v.1.length ≤ 4 ∧ v.2.length ≤ 4) ∧ s.size ≤ 20 ∧ q' ≤ q + 2000 ∧ Rd w' r A cap bs q' ∧ w.grownBy w' (some r)
set_option maxHeartbeats 2000000 in
theorem spec_l92Folded (w : World) (r : Nat) (A : Option Addr) (cap : Nat) (bs : List UInt8) (q : Nat) (h : Rd w r A cap bs q) (hq : q ≤ 400000) :
    Calls Try.prog 65 #[ptr r] w (FoldR w r A cap bs q) := by
  have hr := h.blk.lt
  go_enter Try.func65, Try.ntmps65
  go_wp2_with fail
  refine (spec_l92Pattern w r A cap bs q h (by omega)).mono ?_
  rintro e w1 ⟨B, vs, c, q1, rfl, V1, h2, hc, hcm, hlen, hq1, R1, G1⟩
  have HLen := Lib.hid hlen
  have HV1 := Lib.hid V1
  have HR1 := Lib.hid R1
  have HG1 := Lib.hid G1
  have hpt := pfT_size vs
  obtain ⟨ft, hft⟩ : ∃ ft, ft = pfT vs := ⟨_, rfl⟩
  obtain ⟨fb, hfb⟩ : ∃ fb, fb = (pfo vs).isSome := ⟨_, rfl⟩
  rw [← hft] at hpt
  have HFt := Lib.hid hft
  have HFb := Lib.hid hfb
  clear hlen V1 R1 G1 hft hfb
  go_wp2_with fail
  refine (spec_PatternFirst B c vs w1 HV1.out.verts (by unfold maxLen; omega)).mono ?_
  rintro e w2 ⟨rfl, hb2⟩
  rw [← HFt.out, ← HFb.out]
  have HV2 := Lib.hid (HV1.out.below hb2)
  have HR2 := Lib.hid (HR1.out.below hb2 HR1.out.blk.lt)
  have HG2 := Lib.hid (grown_below HG1.out (hb2.mono HG1.out.size))
  clear HV1 HR1 HG1 hb2 HFt HFb
  cases fb with
  | false =>
    obtain ⟨wT, rfl⟩ : ∃ wT, wT = w2 := ⟨_, rfl⟩
    have VT := HV2
    have RT := HR2
    have GT := HG2
    clear HV2 HR2 HG2
    go_wp2_with fail
    refine (spec_pick wT r A cap bs q1 20 RT.out (by omega) (by omega)).mono ?_
    rintro e w8 ⟨x, rfl, hx, R8, g8⟩
    have G8 := GT.out.trans g8
    have V8 := VT.out.to (some r) g8 (fun b e => by cases e; exact hr)
    have HV8 := Lib.hid V8
    have HG8 := Lib.hid G8
    have HR8 := Lib.hid R8
    clear V8 G8 R8 g8 VT GT RT
    by_cases hx0 : x = 0
    · subst hx0
      go_wp2_with fail
      refine (spec_l91Any w8 r A cap bs (q1 + 1) HR8.out (by omega)).mono ?_
      rintro e w9 ⟨s9, q9, rfl, hs9, hq9, R9, g9⟩
      have HV9 := Lib.hid (HV8.out.to (some r) g9 (fun b e => by cases e; exact hr))
      have HG9 := Lib.hid (HG8.out.trans g9)
      clear HV8 HG8 HR8 g9
      go_wp2_with fail
      go_ret2
      exact ⟨B, vs, c, s9, q9, rfl, HV9.out, h2, hc, hcm, HLen.out, by omega, by omega, R9, HG9.out⟩
    · have dx : ((x : Int) == 0) = false := by rw [beq_eq_false_iff_ne]; omega
      go_wp2_with fail
      refine (spec_PatternCreases B c vs w8 HV8.out.verts (by unfold maxLen; omega)).mono ?_
      rintro e w9 ⟨rfl, hb9⟩
      have HV9 := Lib.hid (HV8.out.below hb9)
      have HR9 := Lib.hid (HR8.out.below hb9 HR8.out.blk.lt)
      have HG9 := Lib.hid (grown_below HG8.out (hb9.mono HG8.out.size))
      clear HV8 HG8 HR8 hb9
      obtain ⟨pc, hpc⟩ : ∃ pc, pc = pcI vs := ⟨_, rfl⟩
      have hpb : -1 ≤ pc ∧ pc ≤ 10 := by rw [hpc]; exact pcI_bd vs
      rw [← hpc]
      clear hpc
      by_cases hp0 : 0 < pc
      · obtain ⟨m, rfl⟩ : ∃ m : Nat, pc = (m : Int) := ⟨pc.toNat, by omega⟩
        have dm : decide ((0 : Int) < (m : Int)) = true := by simp; omega
        have dm2 : 0 < m := by omega
        go_wp2_with fail
        refine (spec_l91Text w9 r A cap bs (q1 + 1) m HR9.out (by omega) (by omega)).mono ?_
        rintro e w10 ⟨s9, rfl, hs9, R10, g10⟩
        have HV10 := Lib.hid (HV9.out.to (some r) g10 (fun b e => by cases e; exact hr))
        have HG10 := Lib.hid (HG9.out.trans g10)
        clear HV9 HG9 HR9 g10
        go_wp2_with fail
        go_ret2
        exact ⟨B, vs, c, s9, _, rfl, HV10.out, h2, hc, hcm, HLen.out, by omega, by omega, R10, HG10.out⟩
      · have dm : decide ((0 : Int) < pc) = false := by simp; omega
        go_wp2_with fail
        refine (spec_l91Text w9 r A cap bs (q1 + 1) 0 HR9.out (by omega) (by omega)).mono ?_
        rintro e w10 ⟨s9, rfl, hs9, R10, g10⟩
        have HV10 := Lib.hid (HV9.out.to (some r) g10 (fun b e => by cases e; exact hr))
        have HG10 := Lib.hid (HG9.out.trans g10)
        clear HV9 HG9 HR9 g10
        go_wp2_with fail
        go_ret2
        exact ⟨B, vs, c, s9, _, rfl, HV10.out, h2, hc, hcm, HLen.out, by omega, by omega, R10, HG10.out⟩
  | true =>
    go_wp2_with fail
    refine (spec_pick w2 r A cap bs q1 3 HR2.out (by omega) (by omega)).mono ?_
    rintro e w3 ⟨m, rfl, hm, R3, g3⟩
    have HV3 := Lib.hid (HV2.out.to (some r) g3 (fun b e => by cases e; exact hr))
    have HG3 := Lib.hid (HG2.out.trans g3)
    have HR3 := Lib.hid R3
    clear HV2 HR2 HG2 g3 R3
    by_cases hm0 : m = 0
    · subst hm0
      obtain ⟨wT, rfl⟩ : ∃ wT, wT = w3 := ⟨_, rfl⟩
      have VT := HV3
      have RT := HR3
      have GT := HG3
      clear HV3 HR3 HG3
      go_wp2_with fail
      refine (spec_pick wT r A cap bs (q1 + 1) 20 RT.out (by omega) (by omega)).mono ?_
      rintro e w8 ⟨x, rfl, hx, R8, g8⟩
      have G8 := GT.out.trans g8
      have V8 := VT.out.to (some r) g8 (fun b e => by cases e; exact hr)
      have HV8 := Lib.hid V8
      have HG8 := Lib.hid G8
      have HR8 := Lib.hid R8
      clear V8 G8 R8 g8 VT GT RT
      by_cases hx0 : x = 0
      · subst hx0
        go_wp2_with fail
        refine (spec_l91Any w8 r A cap bs ((q1 + 1) + 1) HR8.out (by omega)).mono ?_
        rintro e w9 ⟨s9, q9, rfl, hs9, hq9, R9, g9⟩
        have HV9 := Lib.hid (HV8.out.to (some r) g9 (fun b e => by cases e; exact hr))
        have HG9 := Lib.hid (HG8.out.trans g9)
        clear HV8 HG8 HR8 g9
        go_wp2_with fail
        go_ret2
        exact ⟨B, vs, c, s9, q9, rfl, HV9.out, h2, hc, hcm, HLen.out, by omega, by omega, R9, HG9.out⟩
      · have dx : ((x : Int) == 0) = false := by rw [beq_eq_false_iff_ne]; omega
        go_wp2_with fail
        refine (spec_PatternCreases B c vs w8 HV8.out.verts (by unfold maxLen; omega)).mono ?_
        rintro e w9 ⟨rfl, hb9⟩
        have HV9 := Lib.hid (HV8.out.below hb9)
        have HR9 := Lib.hid (HR8.out.below hb9 HR8.out.blk.lt)
        have HG9 := Lib.hid (grown_below HG8.out (hb9.mono HG8.out.size))
        clear HV8 HG8 HR8 hb9
        obtain ⟨pc, hpc⟩ : ∃ pc, pc = pcI vs := ⟨_, rfl⟩
        have hpb : -1 ≤ pc ∧ pc ≤ 10 := by rw [hpc]; exact pcI_bd vs
        rw [← hpc]
        clear hpc
        by_cases hp0 : 0 < pc
        · obtain ⟨m, rfl⟩ : ∃ m : Nat, pc = (m : Int) := ⟨pc.toNat, by omega⟩
          have dm : decide ((0 : Int) < (m : Int)) = true := by simp; omega
          have dm2 : 0 < m := by omega
          go_wp2_with fail
          refine (spec_l91Text w9 r A cap bs ((q1 + 1) + 1) m HR9.out (by omega) (by omega)).mono ?_
          rintro e w10 ⟨s9, rfl, hs9, R10, g10⟩
          have HV10 := Lib.hid (HV9.out.to (some r) g10 (fun b e => by cases e; exact hr))
          have HG10 := Lib.hid (HG9.out.trans g10)
          clear HV9 HG9 HR9 g10
          go_wp2_with fail
          go_ret2
          exact ⟨B, vs, c, s9, _, rfl, HV10.out, h2, hc, hcm, HLen.out, by omega, by omega, R10, HG10.out⟩
        · have dm : decide ((0 : Int) < pc) = false := by simp; omega
          go_wp2_with fail
          refine (spec_l91Text w9 r A cap bs ((q1 + 1) + 1) 0 HR9.out (by omega) (by omega)).mono ?_
          rintro e w10 ⟨s9, rfl, hs9, R10, g10⟩
          have HV10 := Lib.hid (HV9.out.to (some r) g10 (fun b e => by cases e; exact hr))
          have HG10 := Lib.hid (HG9.out.trans g10)
          clear HV9 HG9 HR9 g10
          go_wp2_with fail
          go_ret2
          exact ⟨B, vs, c, s9, _, rfl, HV10.out, h2, hc, hcm, HLen.out, by omega, by omega, R10, HG10.out⟩
    · have dm : decide ((0 : Int) < (m : Int)) = true := by simp; omega
      have dm2 : 0 < m := by omega
      go_wp2_with fail
      refine (spec_pick w3 r A cap bs (q1 + 1) 3 HR3.out (by omega) (by omega)).mono ?_
      rintro e w4 ⟨x, rfl, hx, R4, g4⟩
      have HV4 := Lib.hid (HV3.out.to (some r) g4 (fun b e => by cases e; exact hr))
      have HG4 := Lib.hid (HG3.out.trans g4)
      have HR4 := Lib.hid R4
      clear HV3 HR3 HG3 g4 R4
      by_cases hx0 : x = 0
      · subst hx0
        go_wp2_with fail
        refine (spec_FoldsSwapN ft w4 (by omega)).mono ?_
        rintro e w' ⟨⟨t, rfl, ht⟩, rfl⟩
        have HT := Lib.hid ht
        clear ht
        go_wp2_with fail
        go_ret2
        exact ⟨B, vs, c, t, _, rfl, HV4.out, h2, hc, hcm, HLen.out, by rw [HT.out]; omega, by omega, HR4.out, HG4.out⟩
      · have dx : ((x : Int) == 0) = false := by rw [beq_eq_false_iff_ne]; omega
        go_wp2_with fail
        go_ret2
        exact ⟨B, vs, c, ft, _, rfl, HV4.out, h2, hc, hcm, HLen.out, by omega, by omega, HR4.out, HG4.out⟩
/-- drawn vertices and a text -/
def DrawnF (w : World) (e : Ending) (w' : World) : Prop :=
  ∃ (B : Option Addr) (vs : List Vx) (c : Nat) (s : ByteArray), e = .returned (.tuple #[.slice B vs.length c, .string s]) ∧ Verts w' B vs ∧ vs.length ≤ 2 ∧ vs.length ≤ c ∧ c ≤ maxLen ∧ (∀ v ∈ vs, v.1.length ≤ 4 ∧ v.2.length ≤ 4) ∧ s.size ≤ 20 ∧ Below w.heap.size w w'
set_option maxHeartbeats 1000000 in
theorem spec_DrawPatternFolds (w : World) (A : Option Addr) (cap : Nat) (bs : List UInt8) (h : Codes w w.heap.size A bs) (hl : bs.length ≤ 1048576) (hcap : bs.length ≤ cap) (hcm : cap ≤ maxLen) :
    Calls Try.prog 40 #[.slice A bs.length cap] w (DrawnF w) := by
  go_enter Try.func40, Try.ntmps40
  go_wp2_with fail
  refine (spec_l6Open w A cap bs h hl hcap hcm).mono ?_
  rintro e w1 ⟨bs', rfl, R1, hb1⟩
  go_wp2_with fail
  refine (spec_l92Folded w1 w.heap.size A cap bs' 0 R1 (by omega)).mono ?_
  rintro e w2 ⟨B, vs, c, s, q, rfl, hV, h2, hc, hcm2, hlen, hs, _, R2, G2⟩
  have HL := Lib.hid hlen
  have hv := hV.verts
  have hb := below_of_grown hb1 G2 (Nat.le_refl _) hb1.size
  clear hlen hV
  go_wp2_with fail
  go_ret2
  exact ⟨B, vs, c, s, rfl, hv, h2, hc, hcm2, HL.out, hs, hb⟩
end Go.Proofs.Ytnccpifdajcejaa
namespace Go.Proofs.Ytnccpifdajcejaa
open Go.RowKit

/-- the allowed crimps of a vertex -/
def vcL (xs : List Int) (s : ByteArray) : List Int := if avB xs && fvB s.data.toList xs.length then crimpsTo xs.length (angleAt xs) (byteAt s) xs.length else []
def vcrX (xs : List Int) (i : Nat) : List Int := angTo (crimpX xs.length (angleAt xs) i) (xs.length - 2)
def vcrF (xs : List Int) (s : ByteArray) (i : Nat) : ByteArray := ⟨(folTo (fun k => byteAt s (sig xs.length i k)) (xs.length - 2)).toArray⟩
def vcB (xs : List Int) (s : ByteArray) (i : Int) : Bool := decide (i ∈ vcL xs s)
def vcY (xs : List Int) (s : ByteArray) (i : Int) : List Int := if vcB xs s i then vcrX xs i.toNat else []
def vcS (xs : List Int) (s : ByteArray) (i : Int) : ByteArray := if vcB xs s i then vcrF xs s i.toNat else ByteArray.empty

theorem vcL_mem {xs : List Int} {s : ByteArray} {i : Int} (h : i ∈ vcL xs s) : avB xs = true ∧ fvB s.data.toList xs.length = true ∧ 0 ≤ i ∧ i.toNat < xs.length ∧ 4 ≤ xs.length ∧ allowedB xs.length (angleAt xs) (byteAt s) i.toNat = true := by
  unfold vcL at h
  split at h
  · next hc =>
    rw [Bool.and_eq_true] at hc
    unfold crimpsTo at h
    rw [List.mem_map] at h
    obtain ⟨k, hk, rfl⟩ := h
    rw [List.mem_filter, List.mem_range] at hk
    refine ⟨hc.1, hc.2, by simp, by simpa using hk.1, ?_, by simpa using hk.2⟩
    have := hk.2
    unfold allowedB at this
    by_cases h4 : xs.length < 4
    · rw [if_pos h4] at this; cases this
    · omega
  · cases h

set_option maxHeartbeats 800000 in
theorem impl_VertexCrimps (A : Option Addr) (cap : Nat) (xs : List Int) (s : ByteArray) (w : World) (h : Ints w A xs) (hl : xs.length ≤ maxLen) (hs : s.size ≤ maxLen) :
    Calls Try.prog 68 #[.slice A xs.length cap, .string s] w fun e w' => ∃ v, e = .returned v ∧ Own w' w.heap.size v (vcL xs s) ∧ Below w.heap.size w w' := by
  cases hv : avB xs with
  | false =>
    have HV := Lib.hid hv; clear hv
    go_enter Try.func68, Try.ntmps68
    go_wp2_with fail
    refine (impl_AnglesValid A cap xs w h hl).mono ?_
    rintro e w' ⟨rfl, rfl⟩
    rw [HV.out]
    go_wp2_with fail
    go_ret
    exact ⟨_, rfl, by unfold vcL; rw [HV.out]; exact own_empty w (Nat.le_refl _), (Below.refl _ _).alloc (Nat.le_refl _) _⟩
  | true =>
    obtain ⟨_, h2, h10, hx, _⟩ := avB_parts hv
    have HV := Lib.hid hv; clear hv
    have HX := Lib.hid hx; clear hx
    cases hf : fvB s.data.toList xs.length with
    | false =>
      have HF := Lib.hid hf; clear hf
      go_enter Try.func68, Try.ntmps68
      go_wp2_with fail
      refine (impl_AnglesValid A cap xs w h hl).mono ?_
      rintro e w' ⟨rfl, rfl⟩
      rw [HV.out]
      go_wp2_with fail
      refine (impl_FoldsValid s xs.length w hs).mono ?_
      rintro e w' ⟨rfl, rfl⟩
      rw [HF.out]
      go_wp2_with fail
      go_ret
      exact ⟨_, rfl, by unfold vcL; rw [HV.out, HF.out]; exact own_empty w (Nat.le_refl _), (Below.refl _ _).alloc (Nat.le_refl _) _⟩
    | true =>
      have hsz := fvB_size hf
      have HF := Lib.hid hf; clear hf
      have HS := Lib.hid hsz; clear hsz
      go_enter Try.func68, Try.ntmps68
      go_wp2_with fail
      refine (impl_AnglesValid A cap xs w h hl).mono ?_
      rintro e w' ⟨rfl, rfl⟩
      rw [HV.out]
      go_wp2_with fail
      refine (impl_FoldsValid s xs.length w hs).mono ?_
      rintro e w' ⟨rfl, rfl⟩
      rw [HF.out]
      go_wp2_with fail
      refine (newRing_any w A cap xs s h (by omega) (by omega) (by have := HS.out; omega) (by have := HS.out; omega)).mono ?_
      rintro e w1 ⟨rfl, R, hb1⟩
      go_wp2_with fail
      refine (crimps_any w1 w.heap.size xs.length _ (angleAt xs) (byteAt s) R (by omega) (by omega) (byteAt_lt s)).mono ?_
      rintro e w2 ⟨v, rfl, hown, hb2⟩
      have hsz1 := hb1.size
      go_wp2_with fail
      go_ret
      refine ⟨_, rfl, ?_, below_from hb1 hb2 hsz1⟩
      unfold vcL
      rw [HV.out, HF.out]
      obtain ⟨k1, k2⟩ := hown
      refine ⟨k1, ?_⟩
      rcases k2 with h0 | ⟨g, cap, cur, e, hb, rest⟩
      · exact Or.inl h0
      · exact Or.inr ⟨g, cap, cur, e, by omega, rest⟩

theorem own_lower {w : World} {B B' : Nat} {e : TypeId} {z n : Nat} {v : Value} {xs : List Value} (h : w.ownsRow B e z v n xs) (hB : B' ≤ B) : w.ownsRow B' e z v n xs := by
  obtain ⟨k1, k2⟩ := h
  refine ⟨k1, ?_⟩
  rcases k2 with h0 | ⟨g, cap, cur, e, hb, rest⟩
  · exact Or.inl h0
  · exact Or.inr ⟨g, cap, cur, e, by omega, rest⟩

theorem mem_drop_step {l r : List Int} {k : Nat} {y i : Int} (h : l.drop k = y :: r) (hne : ¬ y = i) : (i ∈ l.drop k) = (i ∈ r) := by
  rw [h, List.mem_cons]
  simp [show ¬ i = y from fun e => hne e.symm]


end Go.Proofs.Ytnccpifdajcejaa
namespace Go.Proofs.Ytnccpifdajcejaa
open Go.RowKit

theorem angles_ext {xs ys : List Int} (h : xs.length = ys.length) (ha : ∀ k, k < xs.length → angleAt xs k = angleAt ys k) : xs = ys := by
  apply List.ext_getElem h
  intro k h1 h2
  have := ha k h1
  unfold angleAt at this
  simpa [List.getD_eq_getElem?_getD, h1, h2] using this
theorem bytes_ext {s t : ByteArray} (h : s.size = t.size) (ha : ∀ k, k < s.size → byteAt s k = byteAt t k) : s = t := by
  apply ByteArray.ext
  apply Array.ext'
  apply List.ext_getElem
  · simpa using h
  · intro k h1 h2
    have := ha k (by simpa using h1)
    unfold byteAt at this
    rw [List.getD_eq_getElem?_getD, List.getD_eq_getElem?_getD, List.getElem?_eq_getElem h1, List.getElem?_eq_getElem h2] at this
    exact UInt8.toNat_inj.1 this
theorem crimped_eq {xs : List Int} {s : ByteArray} {i : Nat} {xs' : List Int} {s' : ByteArray} (h : Crimped xs s i xs' s') : xs' = vcrX xs i ∧ s' = vcrF xs s i := by
  refine ⟨angles_ext ?_ fun k hk => ?_, bytes_ext ?_ fun k hk => ?_⟩
  · rw [h.len]; unfold vcrX; rw [angTo_len]
  · rw [h.len] at hk
    rw [h.angle k hk]
    unfold vcrX
    rw [angleAt_angTo _ hk]
  · rw [h.size]; unfold vcrF; simp [ByteArray.size, folTo_len]
  · rw [h.size] at hk
    rw [h.fold k hk]
    unfold vcrF
    exact (byteAt_folTo (fun k => byteAt s (sig xs.length i k)) hk (byteAt_lt _ _)).symm


end Go.Proofs.Ytnccpifdajcejaa
namespace Go.Proofs.Ytnccpifdajcejaa
open Go.RowKit

def vcT (s : ByteArray) (v : Vx) : Bool := decide (0 < (vcL v.1 (picked s v.2)).length)

set_option maxHeartbeats 1000000 in
theorem impl_PatternCrimp1 (A : Option Addr) (cap : Nat) (xs : List Int) (s : ByteArray) (w : World) (h : Ints w A xs) (hl : xs.length ≤ maxLen) (hs : s.size ≤ maxLen) :
    Calls Try.prog 67 #[.slice A xs.length cap, .string s] w fun e w' => e = .returned (.bool (decide (0 < (vcL xs s).length))) ∧ Below w.heap.size w w' := by
  obtain ⟨ys, hys⟩ : ∃ ys, ys = vcL xs s := ⟨_, rfl⟩
  have HY := Lib.hid hys
  clear hys
  go_enter Try.func67, Try.ntmps67
  go_wp2_with fail
  refine (impl_VertexCrimps A cap xs s w h hl hs).mono ?_
  rintro e w1 ⟨v, rfl, ho, hb⟩
  rw [← HY.out] at ho
  obtain ⟨A1, c1, rfl, _, _, _⟩ := ho.form
  clear ho
  go_wp2_with fail
  go_ret
  exact ⟨ret_bool (by rw [← HY.out]), hb⟩
set_option maxHeartbeats 2000000 in
theorem countC_one (s : ByteArray) (v : Vx) (U V : Value) (w : World) (h1 : IntsV w U v.1) (h2 : IntsV w V v.2) (hs : s.size ≤ 1000) (hv : VOk s v) :
    Calls Try.prog 63 #[.iface 83 (.agg #[U, V]), .string s, .func (.func 67) #[] #[]] w fun e w' => e = .returned (.int .i64 (cntX (vcT s) [v] : Nat)) ∧ Below w.heap.size w w' := by
  obtain ⟨A1, c1, rfl, i1, l1, m1⟩ := h1
  obtain ⟨A2, c2, rfl, i2, l2, m2⟩ := h2
  obtain ⟨n1, n2, hx⟩ := hv
  obtain ⟨w2, hw2⟩ : ∃ w2, w2 = w.alloc (.cells #[.slice A1 v.1.length c1, .slice A2 v.2.length c2] 83) := ⟨_, rfl⟩
  have b2 : Below w.heap.size w w2 := by rw [hw2]; exact (Below.refl _ _).alloc (Nat.le_refl _) _
  have K2 : Blk w2 w.heap.size 83 #[.slice A1 v.1.length c1, .slice A2 v.2.length c2] := by rw [hw2]; exact Blk.new w _ _
  have a0 := K2.cell 0
  have a1 := K2.cell 1
  have HW := Lib.hid hw2
  have I1 := Lib.hid (i1.below b2)
  have I2 := Lib.hid (i2.below b2)
  obtain ⟨q, hq⟩ : ∃ q, q = picked s v.2 := ⟨_, rfl⟩
  obtain ⟨b, hb⟩ : ∃ b, b = vcT s v := ⟨_, rfl⟩
  have hc1 : ∀ W : World, Below w2.heap.size w2 W → Calls Try.prog 79 #[.slice A2 v.2.length c2, .string s] W fun e w' => e = .returned (.string q) ∧ Below W.heap.size W w' := fun W hW => by
    rw [hq]; exact impl_foldsOfCreases A2 c2 v.2 s W ((i2.below b2).below hW) (by omega) hx hs
  have hc2 : ∀ W : World, Below w2.heap.size w2 W → Calls Try.prog 67 #[.slice A1 v.1.length c1, .string q] W fun e w' => e = .returned (.bool b) ∧ Below W.heap.size W w' := fun W hW => by
    rw [hb, hq]; exact impl_PatternCrimp1 A1 c1 v.1 (picked s v.2) W ((i1.below b2).below hW) (by unfold maxLen; omega) (by rw [picked_size]; unfold maxLen; omega)
  have HC1 := Lib.hid hc1
  have HC2 := Lib.hid hc2
  have HQ := Lib.hid hb
  clear hw2 i1 i2 hx hq hb hc1 hc2 I1 I2
  have as1 : ∀ v W, (Instr.typeAssert (.iface 83 v) 66 83 true).run Try.prog W = .ok (.tuple #[v, .bool true]) W := fun v W => run_assert_yes _ _ _ Try.underlying83 (by intro m h; cases h) v W
  go_enter Try.func63, Try.ntmps63
  go_wp2_with fail
  rw [← HW.out]
  go_region_held3 (fun W => W.cell? ⟨w.heap.size, 0, none⟩ = some (.slice A1 v.1.length c1) ∧ W.cell? ⟨w.heap.size, 1, none⟩ = some (.slice A2 v.2.length c2)) (first | exact ⟨a0, a1⟩ | exact ⟨(hby.cell (p := ⟨w.heap.size, 0, none⟩) (Nat.lt_of_lt_of_le K2.lt hbx.size)).trans ((hbx.cell (p := ⟨w.heap.size, 0, none⟩) K2.lt).trans a0), (hby.cell (p := ⟨w.heap.size, 1, none⟩) (Nat.lt_of_lt_of_le K2.lt hbx.size)).trans ((hbx.cell (p := ⟨w.heap.size, 1, none⟩) K2.lt).trans a1)⟩ | exact ⟨(hbx.cell (p := ⟨w.heap.size, 0, none⟩) K2.lt).trans a0, (hbx.cell (p := ⟨w.heap.size, 1, none⟩) K2.lt).trans a1⟩)
    (first
      | (go_simp; go_at_call 79; refine (HC1.out _ (below_drewN (Below.refl _ _) _)).mono ?_; rintro e w3 ⟨rfl, hbx⟩)
      | (go_simp; go_at_call 67; refine (HC2.out _ (below_from (below_drewN (Below.refl _ _) _) hbx (Nat.le_refl _))).mono ?_; rintro e w4 ⟨rfl, hby⟩))
  all_goals
    have b4 : Below w.heap.size w w4 := b2.trans ((below_from (⟨hbx.os, hbx.tape, hbx.output, hbx.size, hbx.block⟩ : Below w2.heap.size w2 w3) hby hbx.size).mono b2.size)
    cases b with
    | false =>
      go_wp2_with fail
      go_ret
      exact ⟨ret_int (by rw [cntX_one, ← HQ.out]; rfl), b4⟩
    | true =>
      go_wp2_with fail
      go_ret
      exact ⟨ret_int (by rw [cntX_one, ← HQ.out]; rfl), b4⟩
set_option maxHeartbeats 2000000 in
theorem countC_any (s : ByteArray) (vs : List Vx) (X : Value) (w : World) (h : PatV w vs X) (hs : s.size ≤ 1000) (hv : ∀ v ∈ vs, VOk s v) (hl : vs.length ≤ 1000) :
    ∀ W : World, Below w.heap.size w W → Calls Try.prog 63 #[X, .string s, .func (.func 67) #[] #[]] W fun e w' => e = .returned (.int .i64 (cntX (vcT s) vs : Nat)) ∧ Below W.heap.size W w' := by
  induction h with
  | one v U V h1 h2 => exact fun W hW => countC_one s v U V W (h1.below hW) (h2.below hW) hs (hv v (by simp))
  | more us v Y U V hne hY h1 h2 ih =>
    intro W hW
    obtain ⟨tY, Z, hYe⟩ := hY.form
    have hlu : us.length + 1 ≤ 1000 := by simpa using hl
    have ihu := ih (fun u hu => hv u (by simp [hu])) (by omega)
    obtain ⟨i0, hi, hz0, hz1, hz2⟩ := info_parts Try.infoSv
    obtain ⟨a, ha⟩ : ∃ a, a = cntX (vcT s) us := ⟨_, rfl⟩
    obtain ⟨b, hb⟩ : ∃ b, b = cntX (vcT s) [v] := ⟨_, rfl⟩
    have ha1 : a ≤ 1000 := by rw [ha]; exact Nat.le_trans (cntX_le _ _) (by omega)
    have hb1 : b ≤ 1 := by rw [hb]; exact cntX_le _ _
    have hsum : cntX (vcT s) (us ++ [v]) = a + b := by rw [cntX_snoc, ha, hb]
    have kw : IntKind.i64.wrap ((a : Int) + (b : Int)) = (a : Int) + (b : Int) := IntWalk.i64_in _ (by omega)
    rw [← ha] at ihu
    have as1 : ∀ v W, (Instr.typeAssert (.iface 85 v) 66 83 true).run Try.prog W = .ok (.tuple #[.agg #[.slice none 0 0, .slice none 0 0], .bool false]) W := fun v W => run_assert_no _ _ _ _ Try.underlying83 (by intro m h; cases h) (by decide) _ i0 hi hz0 v W
    have as2 : ∀ v W, (Instr.typeAssert (.iface 85 v) 66 85 true).run Try.prog W = .ok (.tuple #[v, .bool true]) W := fun v W => run_assert_yes _ _ _ Try.underlying85 (by intro m h; cases h) v W
    obtain ⟨A1, c1, rfl, i1, l1, m1⟩ := h1
    obtain ⟨A2, c2, rfl, i2, l2, m2⟩ := h2
    have hvv := hv v (by simp)
    obtain ⟨W2, hW2⟩ : ∃ W2, W2 = W.alloc (.cells #[.iface tY Z, .slice A1 v.1.length c1, .slice A2 v.2.length c2] 85) := ⟨_, rfl⟩
    have b2 : Below W.heap.size W W2 := by rw [hW2]; exact (Below.refl _ _).alloc (Nat.le_refl _) _
    have bb2 : Below w.heap.size w W2 := hW.trans (b2.mono hW.size)
    have K2 : Blk W2 W.heap.size 85 #[.iface tY Z, .slice A1 v.1.length c1, .slice A2 v.2.length c2] := by rw [hW2]; exact Blk.new W _ _
    have a0 := K2.cell 0
    have a1 := K2.cell 1
    have a2 := K2.cell 2
    have HW := Lib.hid hW2
    have hc1 : ∀ Q : World, Below w.heap.size w Q → Calls Try.prog 63 #[.iface tY Z, .string s, .func (.func 67) #[] #[]] Q fun e w' => e = .returned (.int .i64 (a : Int)) ∧ Below Q.heap.size Q w' := fun Q hQ => by rw [← hYe]; exact ihu Q hQ
    have hc2 : ∀ Q : World, Below w.heap.size w Q → Calls Try.prog 63 #[.iface 83 (.agg #[.slice A1 v.1.length c1, .slice A2 v.2.length c2]), .string s, .func (.func 67) #[] #[]] Q fun e w' => e = .returned (.int .i64 (b : Int)) ∧ Below Q.heap.size Q w' := fun Q hQ => by
      rw [hb]; exact countC_one s v _ _ Q ⟨A1, c1, rfl, i1.below hQ, l1, m1⟩ ⟨A2, c2, rfl, i2.below hQ, l2, m2⟩ hs hvv
    have HC1 := Lib.hid hc1
    have HC2 := Lib.hid hc2
    have HS := Lib.hid hsum
    have HBB := Lib.hid bb2
    subst hYe
    clear hW2 i1 i2 hc1 hc2 ha hb hsum ihu ih hv hvv hi hz0 hz1 hz2 hY hne hl hlu hW bb2
    go_enter Try.func63, Try.ntmps63
    go_wp2_with fail
    rw [← HW.out]
    go_region_held3 (fun Q => Q.cell? ⟨W.heap.size, 0, none⟩ = some (.iface tY Z) ∧ Q.cell? ⟨W.heap.size, 1, none⟩ = some (.slice A1 v.1.length c1) ∧ Q.cell? ⟨W.heap.size, 2, none⟩ = some (.slice A2 v.2.length c2))
      (first
        | exact ⟨a0, a1, a2⟩
        | exact ⟨(hby.cell (p := ⟨W.heap.size, 0, none⟩) (Nat.lt_of_lt_of_le K2.lt hbx.size)).trans ((hbx.cell (p := ⟨W.heap.size, 0, none⟩) K2.lt).trans a0), (hby.cell (p := ⟨W.heap.size, 1, none⟩) (Nat.lt_of_lt_of_le K2.lt hbx.size)).trans ((hbx.cell (p := ⟨W.heap.size, 1, none⟩) K2.lt).trans a1), (hby.cell (p := ⟨W.heap.size, 2, none⟩) (Nat.lt_of_lt_of_le K2.lt hbx.size)).trans ((hbx.cell (p := ⟨W.heap.size, 2, none⟩) K2.lt).trans a2)⟩
        | exact ⟨(hbx.cell (p := ⟨W.heap.size, 0, none⟩) K2.lt).trans a0, (hbx.cell (p := ⟨W.heap.size, 1, none⟩) K2.lt).trans a1, (hbx.cell (p := ⟨W.heap.size, 2, none⟩) K2.lt).trans a2⟩)
      (first
        | (have _hz := hbx.size; go_simp; go_at_call 63; refine (HC2.out _ (below_from HBB.out (⟨hbx.os, hbx.tape, hbx.output, hbx.size, hbx.block⟩ : Below W2.heap.size W2 w3) HBB.out.size)).mono ?_; rintro e w4 ⟨rfl, hby⟩)
        | (go_simp; go_at_call 63; refine (HC1.out _ (below_drewN HBB.out _)).mono ?_; rintro e w3 ⟨rfl, hbx⟩))
    all_goals
      have b4 : Below W.heap.size W w4 := b2.trans ((below_from (⟨hbx.os, hbx.tape, hbx.output, hbx.size, hbx.block⟩ : Below W2.heap.size W2 w3) hby hbx.size).mono b2.size)
      go_wp2_with fail
      go_ret
      exact ⟨ret_int (by rw [HS.out]; omega), b4⟩
end Go.Proofs.Ytnccpifdajcejaa
