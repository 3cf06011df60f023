/- A line of the desk that is of no kind: 'do' panics, 'answer' takes it up. No condition but sizes. The table of powers of ten, out of what a row lists. No condition. -/
import Derived.Test.YtkdlipbegdiaaaaGreatDoorEzBP39
import Derived.Recover
import Derived.Test.YtkdlipbegdiaaaaGreatDoorEzBP0
import Derived.Test.YtkdlipbegdiaaaaGreatDoorEzBP38
namespace Go.Proofs.YtkdlipbegdiaaaaGreatDoor
open Go.RowKit Go.Extern.Stop Go.Stop Go.Extern
set_option maxHeartbeats 8000000 in
set_option maxRecDepth 100000 in
theorem impl_do_what (td : Nat) (x : List UInt8) (r : List (List UInt8)) (m : Int) (w : World) (hm : w.cell? ⟨0, 0, none⟩ = some (.int .i64 m)) (ha : ∀ y ∈ x :: r, (32 : UInt8) ∉ y) (hl : (joinC 32 (x :: r)).length ≤ 300)
    (hk : ∀ c, c < 10 → cmdIs c x r.length = false) :
    Calls Tryz.prog 50 #[.pointer (some ⟨td, 0, none⟩), .string (btj (joinC 32 (x :: r)))] w fun e w' => e = .panicked [{ v := .iface 73 (.agg #[.string (btj (joinC 32 (x :: r)))]), recovered := false }] ∧ Below w.heap.size w w' := by
  obtain ⟨L, hL⟩ : ∃ L, L = btj (joinC 32 (x :: r)) := ⟨_, rfl⟩
  have hLs : L.size < 4294967281 := by
    rw [hL]
    show (List.toArray _).size < _
    simp; omega
  have hcnt := count_join 32 (x :: r) (by simp) ha
  have hspl := split_join 32 (x :: r) (by simp) ha
  rw [← hL] at hcnt hspl
  have hc1 : Lib.countB L (btj [32]) = r.length := by simp at hcnt; omega
  have hr300 : r.length ≤ 300 := by
    have key : ∀ (y : List UInt8) (q : List (List UInt8)), q.length ≤ (joinC 32 (y :: q)).length := by
      intro y q
      induction q generalizing y with
      | nil => simp
      | cons z q ih =>
        have := ih z
        show _ ≤ (y ++ 32 :: joinC 32 (z :: q)).length
        simp; omega
    exact Nat.le_trans (key x r) hl
  rw [hc1] at hspl
  have HSP : Hid (∀ W : World, W.cell? ⟨0, 0, none⟩ = some (.int .i64 m) → Calls Tryz.prog 25 #[.string L, .string ⟨#[32]⟩] W fun e w' => e = .returned (.slice (some ⟨W.heap.size, 0, none⟩) (r.length + 1) (r.length + 1)) ∧ w' = W.alloc (.cells (wordsV (x :: r)) 9)) := by
    show ∀ W : World, _
    intro W hW
    have := Tryz.strings_Split L (btj [32]) m W hLs hW (Nat.le_refl 1)
    rw [hc1, hspl] at this
    exact this
  have hsf : ∀ (a : Addr) (f : Fn) (x y : Array Value) (m : Mode) (W : World), (store a (.func f x y) m).run Tryz.prog W = stored Tryz.prog W a (.func f x y) m := fun a f x y m W => run_store _ W a _ m rfl
  have HKW := Lib.hid hk
  rw [← hL]
  clear ha hL hcnt hspl hc1 hLs hk hl
  go_enter Tryz.func50, Tryz.ntmps50
  go_wp2_with fail
  refine (HSP.out w hm).mono ?_
  rintro e w1 ⟨rfl, hw1⟩
  have HB1 : Hid (Below w.heap.size w w1) := by show Below _ _ _; rw [hw1]; exact (Below.refl _ _).alloc (Nat.le_refl _) _
  have HK1 : Hid (Blk w1 w.heap.size 9 (wordsV (x :: r))) := by show Blk _ _ _ _; rw [hw1]; exact Blk.new w _ _
  clear hw1
  go_wp2_with fail
  refine (impl_deskCommands w1).mono ?_
  rintro e w2 ⟨rfl, hw2⟩
  have hb2 : Below w1.heap.size w1 w2 := by rw [hw2]; exact (Below.refl _ _).alloc (Nat.le_refl _) _
  have HB2 := Lib.hid (HB1.out.trans (hb2.mono HB1.out.size))
  have HK2 := Lib.hid (HK1.out.below hb2 HK1.out.lt)
  have HKC : Hid (Blk w2 w1.heap.size 99 cmdCells) := by show Blk _ _ _ _; rw [hw2]; exact Blk.new w1 _ _
  obtain ⟨b, hb⟩ : ∃ b, b = w.heap.size := ⟨_, rfl⟩
  obtain ⟨cb, hcb⟩ : ∃ cb, cb = w1.heap.size := ⟨_, rfl⟩
  rw [← hb] at HK2 ⊢
  rw [← hcb] at HKC ⊢
  clear hw2 hb2 HB1 HK1 hb hcb
  go_wp2_with fail
  go_loopg [8, 18] 11 (fun gg s8 s18 wr => ∃ (k : Nat), s8 = s8 ∧ k ≤ 10 ∧ s18 = .int .i64 k ∧ 10 - k < gg ∧ Hid (Below w2.heap.size w2 wr))
  case atStart => exact ⟨0, rfl, by omega, rfl, by omega, Below.refl _ _⟩
  case round =>
    obtain ⟨k, _, hk, rfl, hg, HB⟩ := hrel
    cases gk with
    | zero => omega
    | succ g1 =>
    by_cases hk10 : k < 10
    · have k10 : (k : Int) < 10 := by omega
      have k0 : (0 : Int) ≤ (k : Int) := by omega
      have hkc := HKC.out.below HB.out HKC.out.lt
      have hk2 := HK2.out.below HB.out HK2.out.lt
      have n0 : wr.cell? ⟨b, 0, none⟩ = some (.string (btj x)) := (hk2.cell 0).trans (wordsV_get rfl)
      have hbl := hk2.lt
      have hcl := hkc.lt
      obtain ⟨q0, q1, q2, q3⟩ := cmd_cells hk10
      have c0 := (hkc.cell (k * 4)).trans q0
      have c1 := (hkc.cell (k * 4 + 1)).trans q1
      have c2 := (hkc.cell (k * 4 + 2)).trans q2
      have c3 := (hkc.cell (k * 4 + 3)).trans q3
      have hno := HKW.out k hk10
      clear hkc hk2 q0 q1 q2 q3
      unfold cmdIs at hno
      obtain ⟨nm, hnm⟩ : ∃ nm, nm = cmdName k := ⟨_, rfl⟩
      obtain ⟨le, hle⟩ : ∃ le, le = cmdLeast k := ⟨_, rfl⟩
      obtain ⟨mo, hmo⟩ : ∃ mo, mo = cmdMost k := ⟨_, rfl⟩
      rw [← hnm] at c0 hno
      rw [← hle] at c1 hno
      rw [← hmo] at c2 hno
      clear hnm hle hmo
      by_cases e1 : nm = x
      · have t1 : (nm == x) = true := by rw [e1]; simp
        by_cases e2 : r.length < le
        · have d1 : decide (r.length < le) = true := by simpa using e2
          clear hno e1
          go_wp2_with fail
          go_quiet (fail)
          go_wp2_with fail
          go_roundg g1
          case measure => omega
          case rel => exact ⟨k + 1, trivial, by omega, by go_num, by omega, below_drewN (HB.out.alloc HB.out.size _) _⟩
        · have d1 : decide (r.length < le) = false := by simpa using e2
          have e3 : mo < r.length := by
            simp only [Bool.and_eq_false_iff, decide_eq_false_iff_not] at hno
            rcases hno with (h | h) | h
            · rw [t1] at h; cases h
            · omega
            · omega
          have d2 : decide (mo < r.length) = true := by simpa using e3
          clear hno e1 e2
          go_wp2_with fail
          go_quiet (fail)
          go_wp2_with fail
          go_roundg g1
          case measure => omega
          case rel => exact ⟨k + 1, trivial, by omega, by go_num, by omega, below_drewN (HB.out.alloc HB.out.size _) _⟩
      · have t1 : (nm == x) = false := by rw [beq_eq_false_iff_ne]; exact e1
        clear hno e1
        go_wp2_with fail
        go_quiet (fail)
        go_wp2_with fail
        go_roundg g1
        case measure => omega
        case rel => exact ⟨k + 1, trivial, by omega, by go_num, by omega, below_drewN (HB.out.alloc HB.out.size _) _⟩
    · obtain rfl : k = 10 := by omega
      have HBE := Lib.hid (HB2.out.trans (HB.out.mono HB2.out.size))
      go_wp2_with fail
      exact ⟨rfl, rfl, HBE.out⟩
set_option maxRecDepth 100000 in
set_option maxHeartbeats 2000000 in
/-- the deferred closure behind a line that panicked: recover takes it up -/
theorem answer_caught (p : Nat) (L v : ByteArray) (w : World) (hc : Blk w p 9 #[.string v]) :
    CallsD Tryz.prog 49 #[.pointer (some ⟨p, 0, none⟩)] (.panicking [{ v := .iface 73 (.agg #[.string L]), recovered := false }]) w fun e u' w' => e = .returned (.tuple #[]) ∧ u' = .panicking [{ v := .iface 73 (.agg #[.string L]), recovered := true }] ∧ w' = (w.alloc (.cells #[.string L] 73)).setCell ⟨p, 0, none⟩ (.string ⟨#[119, 104, 97, 116]⟩) := by
  have hta : ∀ W : World, (Instr.typeAssert (.iface 73 (.agg #[.string L])) 20 73 true).run Tryz.prog W = .ok (.tuple #[.agg #[.string L], .bool true]) W := fun _ => by kernel_rfl
  have hk2 := hc.alloc (.cells #[.string L] 73)
  have c0 : (w.alloc (.cells #[.string L] 73)).cell? ⟨p, 0, none⟩ = some (.string v) := hk2.cell 0
  have f0 : (w.alloc (.cells #[.string L] 73)).frozen? ⟨p, 0, none⟩ = false := hk2.frozen 0
  refine callsD_of_wpS Tryz.func49 rfl fun c₀ cs hu => ?_
  apply wpS_seq
  apply wpS_region
  simp [wpOpsS, go_sem, recoverD, hu, hta, Tryz.ntmps49, Exit.thenS]
  apply wpS_seq
  apply wpS_region
  simp [wpOpsS, go_sem, Exit.thenS]
  refine wpS_cond (t := true) (by simp [Act.eval, Array.replicate]) ?_
  simp only [if_true]
  apply wpS_region
  simp [wpOpsS, go_sem, c0, f0, bodyPostS, results, Tryz.results49]
set_option maxRecDepth 100000 in
set_option maxHeartbeats 2000000 in
theorem impl_answer_what (td : Nat) (L : ByteArray) (xs : List Int) (f : List UInt8) (w : World) (hDk : Desk w td xs f) (HD : ∀ W : World, Below w.heap.size w W → Calls Tryz.prog 50 #[.pointer (some ⟨td, 0, none⟩), .string L] W fun e w' => e = .panicked [{ v := .iface 73 (.agg #[.string L]), recovered := false }] ∧ Below W.heap.size W w') :
    Calls Tryz.prog 26 #[.pointer (some ⟨td, 0, none⟩), .string L] w fun e w' => e = .returned (.string (btj [119, 104, 97, 116])) ∧ w.grownBy w' (some td) ∧ Desk w' td xs f := by
  have hmf : ∀ (fn : Fn) (first cap : Array Value) (w : World), (Instr.makeFunc fn first cap).run Tryz.prog w = .ok (.func fn first cap) w := fun _ _ _ _ => rfl
  have HDD := Lib.hid HD
  have HDK := Lib.hid hDk
  clear HD hDk
  go_enter_defers Tryz.func26, Tryz.ntmps26
  go_wp2_with fail
  refine (HDD.out _ ((Below.refl _ _).alloc (Nat.le_refl _) _)).mono ?_
  rintro e w2 ⟨rfl, hb2⟩
  have hk := (Blk.new w 9 #[.string ⟨#[]⟩]).below hb2 (Blk.new w 9 #[.string ⟨#[]⟩]).lt
  have HB2 : Hid (Below w.heap.size w w2) := ((Below.refl w.heap.size w).alloc (Nat.le_refl _) _).trans (hb2.mono (by simp))
  have HK := Lib.hid hk
  clear hb2 hk
  go_wp2_with fail
  refine leaves_cons (f := 49) (args := #[.pointer (some ⟨w.heap.size, 0, none⟩)]) (by simp) (by simp [go_sem]) ?_
  refine (answer_caught w.heap.size L ⟨#[]⟩ w2 HK.out).mono ?_
  rintro e u' w'' ⟨rfl, rfl, rfl⟩
  have hk3 : Blk ((w2.alloc (.cells #[.string L] 73)).setCell ⟨w.heap.size, 0, none⟩ (.string ⟨#[119, 104, 97, 116]⟩)) w.heap.size 9 #[.string ⟨#[119, 104, 97, 116]⟩] := by simpa using (HK.out.alloc (.cells #[.string L] 73)).set_ 0 (.string ⟨#[119, 104, 97, 116]⟩)
  have c9 := hk3.cell 0
  have hba := HB2.out.alloc HB2.out.size (.cells #[.string L] 73)
  have hfin : Below w.heap.size w ((w2.alloc (.cells #[.string L] 73)).setCell ⟨w.heap.size, 0, none⟩ (.string ⟨#[119, 104, 97, 116]⟩)) := hba.grown (grown_setE _ w.heap.size 0 (.string ⟨#[119, 104, 97, 116]⟩)) hba.size (fun g e => by cases e; exact Nat.le_refl _)
  have HF := Lib.hid hfin
  obtain ⟨W3, hW3⟩ : ∃ W3, W3 = (w2.alloc (.cells #[.string L] 73)).setCell ⟨w.heap.size, 0, none⟩ (.string ⟨#[119, 104, 97, 116]⟩) := ⟨_, rfl⟩
  rw [← hW3] at HF c9 ⊢
  clear hW3 hfin hba hk3
  have c10 : W3.cell? ⟨w.heap.size, 0, none⟩ = some (.string ⟨#[119, 104, 97, 116]⟩) := c9
  simp [Leaves, settle, results, Tryz.results26, go_sem, c10]
  exact ⟨grown_belowK HF.out, HDK.out.below HF.out⟩
end Go.Proofs.YtkdlipbegdiaaaaGreatDoor
namespace Go.Proofs.YtkdlipbegdiaaaaGreatDoor
open Go
theorem laidMet_tail {P : Program} {x : String × DataW Unit} {rest : List (String × DataW Unit)} {w : World} (h : laidMet P (x :: rest) w) : laidMet P rest w := by
  obtain ⟨ps, hv, hn, hc⟩ := h
  obtain ⟨n, d⟩ := x
  obtain ⟨g, t, cs, fuel, p, q, _, _, _, _, hq, rfl⟩ := hv
  exact ⟨q, hq, (List.nodup_append.1 hn).2.1, fun b off h => hc b off (List.mem_append_right _ h)⟩
theorem pow_of_laid {w : World} {a b : String × DataW Unit} {rest : List (String × DataW Unit)} {d : DataW Unit} (hd : d = Lib.tabData .u64 Lib.pow10Tab) (hp : ((a :: b :: ("internal/strconv.uint64pow10", d) :: rest).all fun x => x.2.handleName?.isNone) = true)
    (h : laidMetH Tryz.prog (a :: b :: ("internal/strconv.uint64pow10", d) :: rest) w) : Pow w := by
  rw [MakeChecks.laidMetH_plain _ _ _ hp] at h
  have h2 := laidMet_tail (laidMet_tail h)
  subst hd
  exact Lib.tabIs_of_head (P := Tryz.prog) (g := 1) (t := 138) (e := 120) (n := 20) (by kernel_rfl) (by kernel_rfl) (by kernel_rfl) (by kernel_rfl) (by kernel_rfl) (by kernel_rfl) h2
end Go.Proofs.YtkdlipbegdiaaaaGreatDoor
