/- The desk's kinds of lines. No condition. The columns of a folded sheet as a text, and the desk's command of it. No condition but sizes. -/
import Derived.Test.YtkdlipbegdiaaaaGreatDoorEzBP2
import Derived.Deep.RegionHeld3
import Derived.Test.YtkdlipbegdiaaaaGreatDoorEzBP34
import Derived.Test.YtkdlipbegdiaaaaGreatDoorEzBP0
import Derived.Test.YtkdlipbegdiaaaaGreatDoorEzBP16
import Derived.Test.YtkdlipbegdiaaaaGreatDoorEzBP7
import Derived.Lib.Join
namespace Go.Proofs.YtkdlipbegdiaaaaGreatDoor
open Go.RowKit
/-- the cells of the kinds of lines -/
def cmdCells : Array Value := #[
  .string ⟨#[97, 110, 103, 108, 101, 115]⟩, .int .i64 1, .int .i64 301, .func (.func 101) #[] #[],
  .string ⟨#[102, 111, 108, 100, 115]⟩, .int .i64 1, .int .i64 1, .func (.func 102) #[] #[],
  .string ⟨#[109, 97, 110, 121]⟩, .int .i64 0, .int .i64 0, .func (.func 103) #[] #[],
  .string ⟨#[102, 105, 114, 115, 116]⟩, .int .i64 0, .int .i64 0, .func (.func 104) #[] #[],
  .string ⟨#[116, 101, 115, 116]⟩, .int .i64 0, .int .i64 0, .func (.func 105) #[] #[],
  .string ⟨#[99, 114, 105, 109, 112]⟩, .int .i64 1, .int .i64 1, .func (.func 106) #[] #[],
  .string ⟨#[115, 116, 114, 105, 112]⟩, .int .i64 2, .int .i64 301, .func (.func 107) #[] #[],
  .string ⟨#[115, 116, 97, 99, 107]⟩, .int .i64 1, .int .i64 1, .func (.func 108) #[] #[],
  .string ⟨#[119, 111, 114, 100]⟩, .int .i64 1, .int .i64 1, .func (.func 109) #[] #[],
  .string ⟨#[115, 116, 97, 109, 112, 115]⟩, .int .i64 1, .int .i64 1, .func (.func 110) #[] #[]]
set_option maxHeartbeats 1000000 in
set_option maxRecDepth 100000 in
theorem impl_deskCommands (w : World) :
    Calls Tryz.prog 76 #[] w fun e w' => e = .returned (.slice (some ⟨w.heap.size, 0, none⟩) 10 10) ∧ w' = w.alloc (.cells cmdCells 99) := by
  go_enter Tryz.func76, Tryz.ntmps76
  go_wp2_with fail
  go_ret
  exact ⟨rfl, rfl⟩
end Go.Proofs.YtkdlipbegdiaaaaGreatDoor
namespace Go.Proofs.YtkdlipbegdiaaaaGreatDoor
open Go.RowKit
theorem mem_shAt {S : Sh} {i j : Nat} {q : Cl} (h : q ∈ shAt S i j) : ∃ x ∈ S.2.2, q ∈ x := by
  unfold shAt at h
  cases hx : S.2.2[i * S.2.1 + j]? with
  | none => rw [hx] at h; simp at h
  | some x => rw [hx] at h; exact ⟨x, List.mem_of_getElem? hx, h⟩
theorem mem_putS {a b : List Cl} {high under : Bool} {q : Cl} (h : q ∈ putS a b high under) : q ∈ a ∨ ∃ p ∈ b, q.2.1 = p.2.1 := by
  unfold putS at h
  split at h
  · rcases List.mem_append.1 h with h | h
    · obtain ⟨p, hp, rfl⟩ := List.mem_map.1 h
      exact Or.inr ⟨p, List.mem_reverse.1 hp, rfl⟩
    · exact Or.inl h
  · rcases List.mem_append.1 h with h | h
    · exact Or.inl h
    · obtain ⟨p, hp, rfl⟩ := List.mem_map.1 h
      exact Or.inr ⟨p, List.mem_reverse.1 hp, rfl⟩
def ColsB (S : Sh) (C : Nat) : Prop := ∀ x ∈ S.2.2, ∀ q ∈ x, q.2.1 < C
theorem ColsB.put {S : Sh} {C : Nat} (h : ColsB S C) {i j i' j' : Nat} {high under : Bool} {q : Cl} (hq : q ∈ putS (shAt S i j) (shAt S i' j') high under) : q.2.1 < C := by
  rcases mem_putS hq with h1 | ⟨p, hp, e⟩
  · obtain ⟨x, hx, h2⟩ := mem_shAt h1
    exact h x hx q h2
  · obtain ⟨x, hx, h2⟩ := mem_shAt hp
    rw [e]; exact h x hx p h2
theorem ColsB.fold {S : Sh} {C : Nat} (h : ColsB S C) (c : UInt8) : ColsB (foldC S c) C := by
  intro x hx q hq
  unfold foldC at hx
  split at hx
  · unfold foldH at hx
    obtain ⟨i, _, hx⟩ := List.mem_flatMap.1 hx
    obtain ⟨j, _, rfl⟩ := List.mem_map.1 hx
    exact h.put hq
  · unfold foldW at hx
    obtain ⟨i, _, hx⟩ := List.mem_flatMap.1 hx
    obtain ⟨j, _, rfl⟩ := List.mem_map.1 hx
    exact h.put hq
theorem ColsB.all {S : Sh} {C : Nat} (h : ColsB S C) (l : List UInt8) : ColsB (foldAll S l) C := by
  induction l generalizing S with
  | nil => exact h
  | cons c r ih => exact ih (h.fold c)
theorem stackT_cols {l : List UInt8} (h5 : l.length ≤ 5) : ∀ q ∈ stackT l, q.2.1 < 100 := by
  intro q hq
  obtain ⟨x, hx, h2⟩ := mem_shAt hq
  have h0 : ColsB (newSh (rowsT l) (colsT l)) (colsT l) := by
    intro x hx q hq
    obtain ⟨i, _, hx⟩ := List.mem_flatMap.1 hx
    obtain ⟨j, hj, rfl⟩ := List.mem_map.1 hx
    rw [List.mem_singleton] at hq
    subst hq
    exact List.mem_range.1 hj
  have := h0.all l x hx q h2
  have h32 : colsT l ≤ 32 := colsT_le h5
  omega
/-- the columns of a stack as texts -/
def colTs (T : List Cl) : List (List UInt8) := T.map fun c => Lib.decDigits c.2.1
/-- and as one text -/
def colsJ (T : List Cl) : List UInt8 := Lib.join (colTs T) [32]
theorem join_len (xs : List (List UInt8)) (m : Nat) (h : ∀ x ∈ xs, x.length ≤ m) : (Lib.join xs [32]).length ≤ xs.length * (m + 1) := by
  have key : ∀ xs : List (List UInt8), (∀ x ∈ xs, x.length ≤ m) → (([32] : List UInt8).intercalate xs).length ≤ xs.length * (m + 1) := by
    intro xs
    induction xs with
    | nil => intro _; simp [List.intercalate]
    | cons x r ih =>
      intro h
      have hx := h x (by simp)
      have hr := ih fun y hy => h y (by simp [hy])
      cases r with
      | nil => simp [List.intercalate]; omega
      | cons y r =>
        rw [List.intercalate_cons_cons] at *
        simp only [List.length_append, List.length_cons, List.length_nil, Nat.succ_mul] at *
        omega
  exact key xs h
set_option maxHeartbeats 2000000 in
set_option maxRecDepth 100000 in
theorem impl_stack (td b : Nat) (arg : List UInt8) (w : World) (_hb : b < w.heap.size) (hc : w.cell? ⟨b, 1, none⟩ = some (.string (btj arg))) (hv : shB arg = true) :
    Calls Tryz.prog 108 #[.pointer (some ⟨td, 0, none⟩), .slice (some ⟨b, 1, none⟩) 1 1] w fun e w' => e = .returned (.tuple #[.string (btj (colsJ (stackT arg))), .bool true]) ∧ Below w.heap.size w w' := by
  have HSS := Lib.hid (fun W : World => impl_SheetStack (btj arg) W hv)
  obtain ⟨q1, q2⟩ := shB_parts hv
  have hcb := stackT_cols q1
  have hlen5 : (stackT arg).length ≤ 32 := by
    rw [stackT_len q2]; exact pow5 q1
  have hlen1 : 1 ≤ (stackT arg).length := by rw [stackT_len q2]; exact Nat.one_le_two_pow
  have HSS2 : Hid (∀ W : World, Calls Tryz.prog 136 #[.string (btj arg)] W fun e w' => (∃ v, e = .returned (.tuple #[v, .bool true]) ∧ SlC w' v (stackT arg)) ∧ Below W.heap.size W w') := HSS.out
  obtain ⟨T, hT⟩ : ∃ T, T = stackT arg := ⟨_, rfl⟩
  rw [← hT] at HSS2 hcb hlen5 hlen1 ⊢
  have HL1 := Lib.hid hlen1
  have HCB := Lib.hid hcb
  clear hT HSS hcb hv q1 q2 hlen1
  go_enter Tryz.func108, Tryz.ntmps108
  go_wp2_with fail
  refine (HSS2.out w).mono ?_
  rintro e w1 ⟨⟨v1, rfl, hS1⟩, hb1⟩
  have HB1 := Lib.hid hb1
  obtain ⟨A1, c1, rfl, hr1⟩ := sl_len hS1
  have HR1 := Lib.hid hr1
  clear hS1 hb1 hr1
  obtain ⟨i0, hi, hz0, hz1, hz2⟩ := info_parts Tryz.infoStrE
  obtain ⟨w2, hrun, hown2, hg2⟩ := run_make_own (P := Tryz.prog) w1 w1.heap.size 46 9 i0 (.string ByteArray.empty) 1 Tryz.underlying46 hi hz0 hz1 .i64 .i64 T.length (by rw [hz2]; omega) (by unfold maxLen; omega) (Nat.le_refl _)
  have HRun : Hid ((Instr.makeSlice 46 (.int .i64 0) (.int .i64 T.length)).run Tryz.prog w1 = .ok (.slice (some ⟨w1.heap.size, 0, none⟩) 0 T.length) w2) := by
    show _ = _
    have := hrun
    simpa using this
  have hb2 : Below w1.heap.size w1 w2 := (Below.refl _ _).grown hg2 (Nat.le_refl _) (by intro k hk; cases hk)
  have HO2 : Hid (OwnTx w2 w1.heap.size (.slice (some ⟨w1.heap.size, 0, none⟩) 0 T.length) (colTs (T.take 0))) := hown2
  have HB2 := Lib.hid hb2
  clear hi hz0 hz1 hz2 hrun hown2 hg2 hb2
  go_wp2_with fail
  rw [HRun.out]
  clear HRun
  go_wp2_with fail
  go_loopg [8, 10, 23] (T.length + 1) (fun gg s8 s10 s23 wr => ∃ (k : Nat), s10 = s10 ∧ k ≤ T.length ∧ s23 = .int .i64 k ∧ T.length - k < gg ∧ Hid (Below w1.heap.size w1 wr) ∧ Hid (OwnTx wr w1.heap.size s8 (colTs (T.take k))))
  case atStart => exact ⟨0, rfl, Nat.zero_le _, rfl, by omega, HB2, HO2⟩
  case round =>
    clear HB2 HO2
    obtain ⟨k, _, hk, rfl, hg, HB, HO⟩ := hrel
    cases gk with
    | zero => omega
    | succ g1 =>
    by_cases hlt : k < T.length
    · have k1 : (k : Int) < (T.length : Int) := by omega
      have k0 : (0 : Int) ≤ (k : Int) := by omega
      obtain ⟨bb, off, rfl, hbb, e0, e1, e2, e3⟩ := (HR1.out.below HB.out).cl hlt
      obtain ⟨x, hx⟩ : ∃ x, x = T[k] := ⟨_, rfl⟩
      rw [← hx] at e0 e1 e2 e3
      have hx100 : x.2.1 < 100 := by rw [hx]; exact HCB.out _ (List.getElem_mem hlt)
      have HIT := Lib.hid (fun W : World => Tryz.strconv_Itoa_small x.2.1 hx100 W)
      have htk : colTs (T.take (k + 1)) = colTs (T.take k) ++ [Lib.decDigits x.2.1] := by
        rw [List.take_succ_eq_append_getElem hlt, ← hx]; simp [colTs]
      have HTK := Lib.hid htk
      have HTL : Hid ((colTs (T.take k)).length ≤ 32) := by
        show _ ≤ _
        unfold colTs; rw [List.length_map, List.length_take]; omega
      have hz1 := HB.out.size
      clear htk hx
      go_upto_region 6 with (fail)
      obtain ⟨w5, hw5⟩ : ∃ y, y = wr.alloc (.cells #[.int .i64 x.1, .int .i64 x.2.1, .bool x.2.2.1, .bool x.2.2.2] 131) := ⟨_, rfl⟩
      have HKP : Hid (Blk w5 wr.heap.size 131 #[.int .i64 x.1, .int .i64 x.2.1, .bool x.2.2.1, .bool x.2.2.2]) := by show Blk _ _ _ _; rw [hw5]; exact Blk.new wr _ _
      have HB5 : Hid (Below w1.heap.size w1 w5) := by show Below _ _ _; rw [hw5]; exact HB.out.alloc HB.out.size _
      have HO5 : Hid (OwnTx w5 w1.heap.size u8 (colTs (T.take k))) := by show OwnTx _ _ _ _; rw [hw5]; exact own_belowTx HO.out ((Below.refl _ _).alloc (Nat.le_refl _) _)
      rw [← hw5]
      have p1 : w5.cell? ⟨wr.heap.size, 1, none⟩ = some (.int .i64 x.2.1) := HKP.out.cell 1
      have hz5 := HB5.out.size
      clear hw5 HB HO
      go_wp2_with fail
      refine (HIT.out _).mono ?_
      rintro e w6 ⟨rfl, rfl⟩
      go_wp2_with (at_builtin; go_loud (refine wpList_pushTx (W := w6) rfl _ _ rfl w1.heap.size _ (colTs (T.take k)) (Lib.decDigits x.2.1) (by rfl) (by rfl) HO5.out hz5 (by have := HTL.out; omega) ?_))
      intro v7 w7 ho7 hg7 hb7
      rw [← HTK.out] at ho7
      have HO7 := Lib.hid ho7
      have HB7 := Lib.hid (HB5.out.trans hb7)
      clear ho7 hg7 hb7
      go_wp2_with fail
      go_roundg g1
      case measure => omega
      case rel => exact ⟨k + 1, trivial, by omega, by go_num, by omega, HB7, HO7⟩
    · obtain rfl : k = T.length := by omega
      have hO := HO.out
      rw [List.take_of_length_le (Nat.le_refl _)] at hO
      have hl1 : (colTs T).length = T.length := by simp [colTs]
      obtain ⟨A8, c8, rfl, hS8, hc8, _⟩ := hO.form
      obtain ⟨g8, rfl⟩ := ownTx_addr hO (by rw [hl1]; exact HL1.out)
      obtain ⟨b8, o8, e8, hb8, hc8'⟩ := hS8 (by intro e; rw [e] at hl1; have := HL1.out; simp at hl1; omega)
      cases e8
      have hjl : (Lib.join (colTs T) [32]).length ≤ 1000 := by
        have := join_len (colTs T) 2 (by
          intro y hy
          obtain ⟨c, hc, rfl⟩ := List.mem_map.1 hy
          have h100 := HCB.out c hc
          by_cases h10 : c.2.1 < 10
          · rw [Lib.decDigits_one h10]; simp
          · rw [Lib.decDigits_two h10 h100]; simp)
        rw [hl1] at this
        omega
      have hmm : ((colTs T).map btj).map (·.data.toList) = colTs T := by rw [List.map_map]; exact List.map_id' _
      have HJ := Lib.hid (Tryz.strings_Join g8 0 c8 ((colTs T).map btj) (btj [32]) wr (by
        intro j y hy
        rw [List.getElem?_map] at hy
        cases hz : (colTs T)[j]? with
        | none => rw [hz] at hy; cases hy
        | some z =>
          rw [hz] at hy
          cases hy
          exact hc8' j z hz) hb8 (by rw [List.length_map, hl1]; omega) (by rw [List.length_map]; exact hc8) (by rw [hmm]; show (Lib.join (colTs T) [32]).length ≤ _; omega))
      rw [hmm, List.length_map] at HJ
      have HB9 := HB
      clear hO hS8 hc8 hb8 hc8' hjl hmm hl1 HO HB
      go_wp2_with fail
      refine HJ.out.mono ?_
      rintro e w9 ⟨rfl, hb9⟩
      have HBE := Lib.hid ((HB1.out.trans (HB9.out.mono HB1.out.size)).trans (hb9.mono (Nat.le_trans HB1.out.size HB9.out.size)))
      clear hb9
      go_wp2_with fail
      go_ret2
      exact ⟨rfl, HBE.out⟩
end Go.Proofs.YtkdlipbegdiaaaaGreatDoor
