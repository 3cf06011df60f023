/- The reader of a code, byte by byte: 'l6Open', 'pick', 'of'. Its place is bounded; nothing else is asked. What the rows' own reading of a slice of bytes gives the walks. No condition. The reader of a code: 'l6Open', 'of'. No condition but sizes. The drawn texts: 'l91Text', 'l91Any'. No condition but sizes. Parts laid flat: the places of parts, whether a level lies between, the levels of parts. No condition but sizes. A range over an iterator that hands out lists one after the other, and whose rounds all go on: the iterator's word and the loop's. No program, no condition. The folds of a ring that some order of layers has are those that crimp down. No condition. -/
import Derived.Laws.BitsAllLaws
import Derived.Laws.BitsLemmas
import Derived.Test.YtkdlipbegdiaaaaGreatDoorEzAP3
import Derived.Test.YtkdlipbegdiaaaaGreatDoorEzAP11
import Derived.Test.YtkdlipbegdiaaaaGreatDoorEzAP2
import Derived.Test.YtkdlipbegdiaaaaGreatDoorEzAP0
import Derived.RangeFuncNested
import Derived.RangeFuncBound
import Derived.RangeFuncLeaves
import Derived.Test.YtkdlipbegdiaaaaGreatDoorEzAP1
import Derived.Test.YtkdlipbegdiaaaaGreatDoorEzAP6
namespace Go.Proofs.YtkdlipbegdiaaaaGreatDoor
open Go.RowKit
/-- the cells of a slice of bytes, all in blocks below r -/
def Codes (w : World) (r : Nat) (A : Option Addr) (bs : List UInt8) : Prop :=
  bs ≠ [] → ∃ b off, A = some ⟨b, off, none⟩ ∧ b < r ∧ ∀ k c, bs[k]? = some c → w.cell? ⟨b, off + k, none⟩ = some (.int .u8 (c.toNat : Int))
theorem Codes.below {w w' : World} {r : Nat} {A : Option Addr} {bs : List UInt8} {B : Nat} (h : Codes w r A bs) (hb : Below B w w') (hr : r ≤ B) : Codes w' r A bs := by
  intro hn
  obtain ⟨b, off, e, hlt, hc⟩ := h hn
  exact ⟨b, off, e, hlt, fun k c hk => (hb.cell (by show b < B; omega)).trans (hc k c hk)⟩
theorem Codes.set_ {w : World} {r i : Nat} {A : Option Addr} {bs : List UInt8} (h : Codes w r A bs) (u : Value) : Codes (w.setCell ⟨r, i, none⟩ u) r A bs := by
  intro hn
  obtain ⟨b, off, e, hlt, hc⟩ := h hn
  refine ⟨b, off, e, hlt, fun k c hk => ?_⟩
  rw [World.cell?_of_block (w := w) (heap_setCell_other w ⟨r, i, none⟩ b u (by show b ≠ r; omega))]
  exact hc k c hk
/-- the reader in block r: the code's bytes bs, the place q -/
structure Rd (w : World) (r : Nat) (A : Option Addr) (cap : Nat) (bs : List UInt8) (q : Nat) : Prop where
  blk : Blk w r 61 #[.slice A bs.length cap, .int .i64 q]
  codes : Codes w r A bs
  len : bs.length ≤ 2000
theorem Rd.below {w w' : World} {r : Nat} {A : Option Addr} {cap : Nat} {bs : List UInt8} {q B : Nat} (h : Rd w r A cap bs q) (hb : Below B w w') (hr : r < B) : Rd w' r A cap bs q :=
  ⟨h.blk.below hb hr, h.codes.below hb (Nat.le_of_lt hr), h.len⟩
theorem wrap_small {x : Int} (h0 : 0 ≤ x) (h1 : x ≤ 1000000000000) : IntKind.i64.wrap x = x := by rw [IntKind.wrap_i64]; omega
theorem pick_wraps {z1 z2 q m3 : Nat} (h1 : z1 < 256) (h2 : z2 < 256) (hq : q ≤ 1000000) (h3 : m3 ≤ q) :
    IntKind.i64.wrap (z1 : Int) = (z1 : Int) ∧ IntKind.i64.wrap (z2 : Int) = (z2 : Int) ∧ IntKind.i64.wrap ((z1 : Int) * 131) = ((z1 : Int) * 131) ∧ IntKind.i64.wrap ((q : Int) * 7) = ((q : Int) * 7) ∧ IntKind.i64.wrap ((q : Int) * 7 + 3) = ((q : Int) * 7 + 3) ∧ IntKind.i64.wrap ((z2 : Int) * 1117) = ((z2 : Int) * 1117) ∧ IntKind.i64.wrap ((z1 : Int) * 131 + (z2 : Int) * 1117) = ((z1 : Int) * 131 + (z2 : Int) * 1117) ∧ IntKind.i64.wrap ((q : Int) * 29) = ((q : Int) * 29) ∧ IntKind.i64.wrap ((z1 : Int) * 131 + (z2 : Int) * 1117 + (q : Int) * 29) = ((z1 : Int) * 131 + (z2 : Int) * 1117 + (q : Int) * 29) ∧ IntKind.i64.wrap ((m3 : Int) * 53) = ((m3 : Int) * 53) ∧ IntKind.i64.wrap ((z1 : Int) * 131 + (z2 : Int) * 1117 + (q : Int) * 29 + (m3 : Int) * 53) = ((z1 : Int) * 131 + (z2 : Int) * 1117 + (q : Int) * 29 + (m3 : Int) * 53) := by
  refine ⟨?_, ?_, ?_, ?_, ?_, ?_, ?_, ?_, ?_, ?_, ?_⟩ <;> exact wrap_small (by omega) (by omega)
theorem ofInt_nat64 (a : Nat) (ha : a < 9223372036854775808) : (BitVec.ofInt 64 (a : Int)).toNat = a := by
  rw [BitVec.ofInt_natCast, BitVec.toNat_ofNat]; exact Nat.mod_eq_of_lt (by omega)
theorem xor_nat (a b : Nat) (ha : a < 9223372036854775808) (hb : b < 9223372036854775808) : bits .xor .i64 (a : Int) (b : Int) = ((a ^^^ b : Nat) : Int) := by
  have hx : a ^^^ b < 2 ^ 63 := Nat.xor_lt_two_pow (by omega) (by omega)
  show IntKind.i64.wrap ((BitVec.ofInt 64 (a : Int) ^^^ BitVec.ofInt 64 (b : Int)).toNat : Int) = _
  rw [BitVec.toNat_xor, ofInt_nat64 a ha, ofInt_nat64 b hb, IntKind.wrap_i64]
  omega
theorem pick_end {z1 z2 q m3 n : Nat} (h1 : z1 < 256) (h2 : z2 < 256) (hq : q ≤ 1000000) (h3 : m3 ≤ q) (hn : 0 < n) :
    ∃ k : Nat, k < n ∧ (bits .xor .i64 ((z1 : Int) * 131 + (z2 : Int) * 1117 + (q : Int) * 29 + (m3 : Int) * 53) (((z1 : Int) * 131 + (z2 : Int) * 1117 + (q : Int) * 29 + (m3 : Int) * 53) / 64)).tmod (n : Int) = (k : Int) := by
  obtain ⟨X, hX⟩ : ∃ X, X = z1 * 131 + z2 * 1117 + q * 29 + m3 * 53 := ⟨_, rfl⟩
  have e : (z1 : Int) * 131 + (z2 : Int) * 1117 + (q : Int) * 29 + (m3 : Int) * 53 = (X : Int) := by omega
  refine ⟨(X ^^^ (X / 64)) % n, Nat.mod_lt _ hn, ?_⟩
  rw [e, show (X : Int) / 64 = ((X / 64 : Nat) : Int) from by omega, xor_nat X (X / 64) (by omega) (by omega), Int.tmod_eq_emod_of_nonneg (by omega)]
  simp
set_option maxHeartbeats 2000000 in
set_option maxRecDepth 100000 in
theorem spec_pick (w : World) (r : Nat) (A : Option Addr) (cap : Nat) (bs : List UInt8) (q n : Nat) (h : Rd w r A cap bs q) (hq : q ≤ 1000000) (hn : n ≤ 1000000) :
    Calls Tryz.prog 33 #[ptr r, .int .i64 n] w fun e w' => ∃ k : Nat, e = .returned (.int .i64 k) ∧ (k < n ∨ k = 0) ∧ Rd w' r A cap bs (q + 1) ∧ w.grownBy w' (some r) := by
  have c0 := h.blk.cell 0
  have c1 := h.blk.cell 1
  have f1 := h.blk.frozen 1
  have hl := h.len
  have hset : ∀ m, Rd ((w.setCell ⟨r, 1, none⟩ (.int .i64 ((q : Int) + 1))).drewN m) r A cap bs (q + 1) := fun m =>
    ⟨(h.blk.set_ 1 _).drewN m, h.codes.set_ _, h.len⟩
  have hgr : ∀ m, w.grownBy ((w.setCell ⟨r, 1, none⟩ (.int .i64 ((q : Int) + 1))).drewN m) (some r) := fun m =>
    ⟨rfl, rfl, rfl, by simp, fun k _ hk => heap_setCell_other w ⟨r, 1, none⟩ k _ (fun e => hk (by have e' : k = r := e; rw [e']))⟩
  have b0 := (h.blk.set_ 1 (.int .i64 ((q : Int) + 1))).cell 0
  have b1 := (h.blk.set_ 1 (.int .i64 ((q : Int) + 1))).cell 1
  by_cases g0 : n < 1
  · obtain rfl : n = 0 := by omega
    go_enter Tryz.func33, Tryz.ntmps33
    go_wp2_with fail
    go_ret
    exact ⟨0, rfl, Or.inr rfl, hset 0, hgr 0⟩
  · by_cases g1 : bs.length = 0
    · go_enter Tryz.func33, Tryz.ntmps33
      go_wp2_with fail
      go_ret
      exact ⟨0, rfl, Or.inr rfl, hset 0, hgr 0⟩
    · by_cases g2 : q < bs.length
      · obtain ⟨b, off, rfl, hb, hc⟩ := (h.codes.set_ (i := 1) (.int .i64 ((q : Int) + 1))) (by intro e; rw [e] at g1; exact g1 rfl)
        have cc := hc q _ (List.getElem?_eq_getElem g2)
        obtain ⟨z, hz, hz1⟩ : ∃ z, z = bs[q].toNat ∧ z < 256 := ⟨_, rfl, bs[q].toNat_lt⟩
        rw [← hz] at cc
        have e1 : ((bs.length : Int) == 0) = false := by rw [beq_eq_false_iff_ne]; omega
        have e2 : wrap64 (z : Int) = (z : Int) := by unfold wrap64; omega
        have t1 : ((z : Int).tmod (n : Int)) = ((z % n : Nat) : Int) := by rw [Int.tmod_eq_emod_of_nonneg (by omega)]; simp
        have hlt := Nat.mod_lt z (show 0 < n by omega)
        have HN := Lib.hid (show (z % n < n ∨ z % n = 0) from Or.inl hlt)
        have HS := Lib.hid hset
        have HG := Lib.hid hgr
        clear hc hlt hz hset hgr
        go_enter Tryz.func33, Tryz.ntmps33
        go_wp2_with fail
        go_ret
        exact ⟨z % n, ret_int (by simp), HN.out, HS.out 0, HG.out 0⟩
      · obtain ⟨b, off, rfl, hb, hc⟩ := (h.codes.set_ (i := 1) (.int .i64 ((q : Int) + 1))) (by intro e; rw [e] at g1; exact g1 rfl)
        obtain ⟨m1, hm1⟩ : ∃ m, m = q % bs.length := ⟨_, rfl⟩
        obtain ⟨m2, hm2⟩ : ∃ m, m = (q * 7 + 3) % bs.length := ⟨_, rfl⟩
        obtain ⟨m3, hm3⟩ : ∃ m, m = q / bs.length := ⟨_, rfl⟩
        have l1 : m1 < bs.length := hm1 ▸ Nat.mod_lt _ (by omega)
        have l2 : m2 < bs.length := hm2 ▸ Nat.mod_lt _ (by omega)
        have l3 : m3 ≤ q := hm3 ▸ Nat.div_le_self _ _
        have cc1 := hc m1 _ (List.getElem?_eq_getElem l1)
        have cc2 := hc m2 _ (List.getElem?_eq_getElem l2)
        obtain ⟨z1, hz1, hy1⟩ : ∃ z, z = bs[m1].toNat ∧ z < 256 := ⟨_, rfl, bs[m1].toNat_lt⟩
        obtain ⟨z2, hz2, hy2⟩ : ∃ z, z = bs[m2].toNat ∧ z < 256 := ⟨_, rfl, bs[m2].toNat_lt⟩
        rw [← hz1] at cc1
        rw [← hz2] at cc2
        have e1 : ((bs.length : Int) == 0) = false := by rw [beq_eq_false_iff_ne]; omega
        have t1 : ((q : Int).tmod (bs.length : Int)) = (m1 : Int) := by rw [Int.tmod_eq_emod_of_nonneg (by omega), hm1]; simp
        have t2 : (((q : Int) * 7 + 3).tmod (bs.length : Int)) = (m2 : Int) := by rw [Int.tmod_eq_emod_of_nonneg (by omega), hm2]; simp
        have t3 : ((q : Int).tdiv (bs.length : Int)) = (m3 : Int) := by rw [Int.tdiv_eq_ediv_of_nonneg (by omega), hm3]; simp
        have t4 : ((q : Int) % (bs.length : Int)) = (m1 : Int) := by rw [hm1]; simp
        have t5 : (((q : Int) * 7 + 3) % (bs.length : Int)) = (m2 : Int) := by rw [hm2]; simp
        have t6 : ((q : Int) / (bs.length : Int)) = (m3 : Int) := by rw [hm3]; simp
        have HS := Lib.hid hset
        have HG := Lib.hid hgr
        clear hc hz1 hz2 hset hgr hm1 hm2 hm3
        go_enter Tryz.func33, Tryz.ntmps33
        go_wp2_with fail
        obtain ⟨w0, w1, w2, w3, w4, w5, w6, w7, w8, w9, w10⟩ := pick_wraps hy1 hy2 hq l3
        go_quiet (fail)
        go_wp2_with fail
        obtain ⟨k, hk1, hk2⟩ := pick_end hy1 hy2 hq l3 (show 0 < n by clear t1 t2 t3 t4 t5 t6; omega)
        go_ret
        exact ⟨k, ret_int hk2, Or.inl hk1, HS.out _, HG.out _⟩
end Go.Proofs.YtkdlipbegdiaaaaGreatDoor
namespace Go.Proofs.YtkdlipbegdiaaaaGreatDoor
open Go.RowKit
theorem codes_of_row {w : World} {a : Option Addr} {len cap : Nat} {zs : List Int}
    (h : (a = none ∧ len = 0 ∧ cap = 0 ∧ zs = []) ∨
      ∃ x, a = some x ∧ len ≤ cap ∧ cap ≤ maxLen ∧ zs.length = cap ∧ (∀ i, i < zs.length → w.cell? (x.add i) = some (.int .u8 (zs.getD i 0))) ∧ ∀ n ∈ zs, (Lit.int .u8 n).wf = true) :
    ∃ bs : List UInt8, bs.length = len ∧ Codes w w.heap.size a bs ∧ len ≤ cap ∧ cap ≤ maxLen := by
  rcases h with ⟨rfl, rfl, rfl, rfl⟩ | ⟨x, rfl, hl, hm, hz, hc, hw⟩
  · exact ⟨[], rfl, fun h => absurd rfl h, Nat.le_refl _, by unfold maxLen; omega⟩
  · refine ⟨(zs.take len).map (fun n => UInt8.ofNat n.toNat), by rw [List.length_map, List.length_take]; omega, fun hn => ?_, hl, hm⟩
    have h0 : 0 < zs.length := by
      cases zs with
      | nil => simp at hn
      | cons y r => simp
    obtain ⟨b, off, sp⟩ := x
    have c0 := hc 0 h0
    have hsp : sp = none := by simpa [Addr.add] using World.cell?_spot c0
    subst hsp
    refine ⟨b, off, rfl, World.block_lt_of_cell? _ _ c0, fun k c hk => ?_⟩
    rw [List.getElem?_map, List.getElem?_take] at hk
    split at hk
    · next hk' =>
      have hkz : k < zs.length := by omega
      have := hc k hkz
      rw [Addr.add_lit] at this
      rw [this]
      rw [List.getElem?_eq_getElem hkz] at hk
      simp only [Option.map_some, Option.some.injEq] at hk
      have hwk := hw zs[k] (List.getElem_mem hkz)
      have hb : 0 ≤ zs[k] ∧ zs[k] < 256 := by
        simp [Lit.wf, IntKind.min, IntKind.max, IntKind.bits, IntKind.signed] at hwk
        omega
      rw [List.getD_eq_getElem?_getD, List.getElem?_eq_getElem hkz, ← hk]
      simp only [Option.getD_some]
      congr 2
      rw [UInt8.toNat_ofNat_of_lt' (by simp [UInt8.size]; omega)]
      omega
    · cases hk
end Go.Proofs.YtkdlipbegdiaaaaGreatDoor
namespace Go.Proofs.YtkdlipbegdiaaaaGreatDoor
open Go.RowKit
theorem Codes.take {w : World} {r : Nat} {A : Option Addr} {bs : List UInt8} (h : Codes w r A bs) (n : Nat) : Codes w r A (bs.take n) := by
  intro hn
  obtain ⟨b, off, e, hlt, hc⟩ := h (by intro e; rw [e] at hn; simp at hn)
  refine ⟨b, off, e, hlt, fun k c hk => hc k c ?_⟩
  rw [List.getElem?_take] at hk
  split at hk
  · exact hk
  · cases hk
set_option maxHeartbeats 1000000 in
theorem spec_l6Open (w : World) (A : Option Addr) (cap : Nat) (bs : List UInt8) (h : Codes w w.heap.size A bs) (hl : bs.length ≤ 1048576) (hcap : bs.length ≤ cap) (hcm : cap ≤ maxLen) :
    Calls Tryz.prog 19 #[.slice A bs.length cap] w fun e w' => ∃ bs', e = .returned (ptr w.heap.size) ∧ Rd w' w.heap.size A cap bs' 0 ∧ Below w.heap.size w w' := by
  unfold maxLen at hcm
  have hb : ∀ o, Below w.heap.size w (w.alloc o) := fun o => (Below.refl _ _).alloc (Nat.le_refl _) o
  by_cases g : bs.length ≤ 2000
  · have d1 : decide ((2000 : Int) < (bs.length : Int)) = false := by simp; omega
    go_enter Tryz.func19, Tryz.ntmps19
    go_wp2_with fail
    go_ret
    exact ⟨bs, rfl, ⟨Blk.new w _ _, h.below (hb _) (Nat.le_refl _), g⟩, hb _⟩
  · have d1 : decide ((2000 : Int) < (bs.length : Int)) = true := by simp; omega
    obtain ⟨b, off, rfl, _, _⟩ := h (by intro e; rw [e] at g; simp at g)
    have ht : (bs.take 2000).length = 2000 := by simp; omega
    go_enter Tryz.func19, Tryz.ntmps19
    go_wp2_with fail
    go_ret
    exact ⟨bs.take 2000, rfl, ⟨by rw [ht]; exact Blk.new w _ _, (h.take 2000).below (hb _) (Nat.le_refl _), by omega⟩, hb _⟩
set_option maxHeartbeats 1000000 in
theorem spec_of (w : World) (r : Nat) (A : Option Addr) (cap : Nat) (bs : List UInt8) (q g c : Nat) (ss : List ByteArray) (h : Rd w r A cap bs q) (hq : q ≤ 1000000) (h0 : 0 < ss.length) (hn : ss.length ≤ 1000000) (hg : g ≠ r) (hgs : g < w.heap.size)
    (hs : ∀ k s, ss[k]? = some s → w.cell? ⟨g, k, none⟩ = some (.string s)) :
    Calls Tryz.prog 62 #[ptr r, .slice (some ⟨g, 0, none⟩) ss.length c] w fun e w' => ∃ s, s ∈ ss ∧ e = .returned (.string s) ∧ Rd w' r A cap bs (q + 1) ∧ w.grownBy w' (some r) := by
  go_enter Tryz.func62, Tryz.ntmps62
  go_wp2_with fail
  refine (spec_pick w r A cap bs q ss.length h hq hn).mono ?_
  rintro e w1 ⟨k, rfl, hk, R1, hgr⟩
  have hlt : k < ss.length := by omega
  have hc := (hgr.cell_far ⟨g, k, none⟩ hgs (fun e => hg (Option.some.inj e))).trans (hs k _ (List.getElem?_eq_getElem hlt))
  have hm := List.getElem_mem hlt
  obtain ⟨s, hs1, hs2⟩ : ∃ s, s = ss[k] ∧ s ∈ ss := ⟨_, rfl, hm⟩
  rw [← hs1] at hc
  clear hs1 hm hs hk
  go_wp2_with fail
  go_ret
  exact ⟨s, hs2, rfl, R1, hgr⟩
end Go.Proofs.YtkdlipbegdiaaaaGreatDoor
namespace Go.Proofs.YtkdlipbegdiaaaaGreatDoor
open Go.RowKit
theorem Rd.far {w : World} {r : Nat} {A : Option Addr} {cap : Nat} {bs : List UInt8} {q : Nat} (h : Rd w r A cap bs q) (o : Obj) : Rd (w.alloc o) r A cap bs q :=
  h.below ((Below.refl w.heap.size w).alloc (Nat.le_refl _) o) h.blk.lt
theorem grown_alloc (w : World) (o : Obj) (row : Option Nat) : w.grownBy (w.alloc o) row :=
  ⟨rfl, rfl, rfl, by simp, fun k hk _ => Below.heap_alloc w o k hk⟩
set_option maxHeartbeats 1000000 in
theorem spec_l91Text (w : World) (r : Nat) (A : Option Addr) (cap : Nat) (bs : List UInt8) (q n : Nat) (h : Rd w r A cap bs q) (hq : q ≤ 900000) (hn : n ≤ 1000) :
    Calls Tryz.prog 37 #[ptr r, .int .i64 n] w fun e w' => ∃ s : ByteArray, e = .returned (.string s) ∧ s.size = n ∧ Rd w' r A cap bs (q + n) ∧ w.grownBy w' (some r) := by
  go_enter Tryz.func37, Tryz.ntmps37
  go_wp2_with fail
  go_loopg [5, 6] (n + 1) (fun g s5 s6 wr => ∃ (i : Nat) (t : ByteArray), i ≤ n ∧ s6 = .int .i64 i ∧ s5 = .string t ∧ t.size ≤ i ∧ Hid (t.size = i) ∧ n - i < g ∧ Rd wr r A cap bs (q + i) ∧ w.grownBy wr (some r))
  case atStart => exact ⟨0, _, Nat.zero_le _, rfl, rfl, Nat.le_refl _, rfl, by omega, h, World.grownBy.refl w _⟩
  case round =>
    obtain ⟨i, t, hi, rfl, rfl, hts, HT, hg, R, hgr⟩ := hrel
    cases gk with
    | zero => omega
    | succ g =>
    by_cases hlt : i < n
    · have hrl := R.blk.lt
      have R2 := R.far (.cells #[.string ⟨#[77]⟩, .string ⟨#[86]⟩] 9)
      have hgr2 := hgr.trans (grown_alloc wr (.cells #[.string ⟨#[77]⟩, .string ⟨#[86]⟩] 9) (some r))
      have hcell : ∀ k s, [ByteArray.mk #[77], ByteArray.mk #[86]][k]? = some s → (wr.alloc (.cells #[.string ⟨#[77]⟩, .string ⟨#[86]⟩] 9)).cell? ⟨wr.heap.size, k, none⟩ = some (.string s) := by
        intro k s hk
        rw [(Blk.new wr 9 #[.string ⟨#[77]⟩, .string ⟨#[86]⟩]).cell k]
        match k, hk with
        | 0, hk => cases hk; rfl
        | 1, hk => cases hk; rfl
      clear R hgr
      go_wp2_with fail
      refine (spec_of _ r A cap bs (q + i) wr.heap.size 2 [ByteArray.mk #[77], ByteArray.mk #[86]] R2 (by omega) (by decide) (by decide) (by omega) (by simp) hcell).mono ?_
      rintro e w1 ⟨s, hs, rfl, R3, hgr3⟩
      have hgr4 := hgr2.trans hgr3
      have hs1 : s.size = 1 := by
        simp at hs
        rcases hs with rfl | rfl <;> rfl
      have h63 : t.size + s.size ≤ 9223372036854775807 := by omega
      have b12 : ∀ W, (Op.stringOp .add t s).run Tryz.prog W = .ok (.string (t ++ s)) W := fun W => run_string_add_sum W _ _ h63
      have HS := Lib.hid hs1
      clear hs hcell hs1 h63 hgr2 hgr3
      go_wp2_with fail
      go_roundg g
      case measure => omega
      case rel => exact ⟨i + 1, t ++ s, by omega, by go_num, rfl, by rw [ByteArray.size_append, HS.out]; omega, by show _ = _; rw [ByteArray.size_append, HS.out, HT.out], by omega, R3, hgr4⟩
    · obtain rfl : i = n := by omega
      go_wp2_with fail
      go_ret
      exact ⟨t, rfl, HT.out, R, hgr⟩
end Go.Proofs.YtkdlipbegdiaaaaGreatDoor
namespace Go.Proofs.YtkdlipbegdiaaaaGreatDoor
open Go.RowKit
/-- where the part k begins -/
def plcAt (xs : List Int) : Nat → Int
  | 0 => 0
  | k + 1 => if k % 2 = 0 then plcAt xs k + xs.getD k 0 else plcAt xs k - xs.getD k 0
def plcTo (xs : List Int) (m : Nat) : List Int := (List.range m).map (plcAt xs)
def plcL (xs : List Int) : List Int := plcTo xs (xs.length + 1)
theorem plcTo_len (xs : List Int) (m : Nat) : (plcTo xs m).length = m := by simp [plcTo]
theorem plcTo_succ (xs : List Int) (m : Nat) : plcTo xs (m + 1) = plcTo xs m ++ [plcAt xs m] := by simp [plcTo, List.range_succ]
theorem plcTo_get {xs : List Int} {m k : Nat} (h : k < m) : (plcTo xs m)[k]? = some (plcAt xs k) := by simp [plcTo, h]
theorem plcAt_bd {xs : List Int} (hx : ∀ x ∈ xs, 0 ≤ x ∧ x ≤ 1000) (k : Nat) : -(1000 * (k : Int)) ≤ plcAt xs k ∧ plcAt xs k ≤ 1000 * (k : Int) := by
  induction k with
  | zero => simp [plcAt]
  | succ k ih =>
    have hg : 0 ≤ xs.getD k 0 ∧ xs.getD k 0 ≤ 1000 := by
      rw [List.getD_eq_getElem?_getD]
      cases hk : xs[k]? with
      | none => simp
      | some y => exact hx y (List.mem_of_getElem? hk)
    rw [plcAt]
    split <;> omega
theorem mod2z (k : Nat) : ((k : Int).tmod 2 = ((k % 2 : Nat) : Int)) ∧ ((k : Int) % 2 = ((k % 2 : Nat) : Int)) := by
  have h1 : (0 : Int) ≤ (k : Int) := by omega
  refine ⟨?_, ?_⟩
  · rw [Int.tmod_eq_emod_of_nonneg h1]; omega
  · omega
set_option maxHeartbeats 1000000 in
set_option maxRecDepth 100000 in
theorem impl_placesOf (A : Option Addr) (cap : Nat) (xs : List Int) (w : World) (h : Ints w A xs) (hl : xs.length ≤ 100) (hx : ∀ x ∈ xs, 0 ≤ x ∧ x ≤ 1000) :
    Calls Tryz.prog 40 #[.slice A xs.length cap] w fun e w' => ∃ v, e = .returned v ∧ Own w' w.heap.size v (plcL xs) ∧ Below w.heap.size w w' := by
  go_enter Tryz.func40, Tryz.ntmps40
  obtain ⟨i0, hi, hz0, hz1, hz2⟩ := info_parts Tryz.infoInt
  obtain ⟨w1, hrun, hown1, hg1⟩ := run_make_own (P := Tryz.prog) w w.heap.size 23 3 i0 (.int .i64 0) 1 Tryz.underlying23 hi hz0 hz1 .i64 .i64 (xs.length + 1) (by rw [hz2]; omega) (by unfold maxLen; omega) (Nat.le_refl _)
  have hb1 : Below w.heap.size w w1 := (Below.refl _ _).grown hg1 (Nat.le_refl _) (by intro k hk; cases hk)
  have HRun : Hid ((Instr.makeSlice 23 (.int .i64 0) (.int .i64 ((xs.length : Int) + 1))).run Tryz.prog w = .ok (.slice (some ⟨w.heap.size, 0, none⟩) 0 (xs.length + 1)) w1) := by
    show _ = _
    have := hrun
    simpa using this
  have hown1' : Own w1 w.heap.size (.slice (some ⟨w.heap.size, 0, none⟩) 0 (xs.length + 1)) (plcTo xs 0) := hown1
  have HB1 := Lib.hid hb1
  have hsz1 := hb1.size
  clear hi hz0 hz1 hz2 hrun hown1 hg1 hb1
  go_wp2_with fail
  rw [HRun.out]
  clear HRun
  go_wp2_with (at_builtin; go_loud (refine wpList_push (W := w1) rfl _ _ rfl w.heap.size _ (plcTo xs 0) 0 (by rfl) (by rfl) hown1' hsz1 (by simp [plcTo]) ?_))
  intro v2 w2 hown2 hgr2 hb2
  have HO2 : Hid (Own w2 w.heap.size v2 (plcTo xs 1)) := by
    have : plcTo xs 1 = plcTo xs 0 ++ [0] := plcTo_succ xs 0
    show Own _ _ _ _
    rw [this]; exact hown2
  have HB2 := Lib.hid (HB1.out.trans hb2)
  clear hown1' hown2 hgr2 hb2 hsz1 HB1
  go_wp2_with fail
  go_loopg [3, 4, 5, 6, 17] (xs.length + 1) (fun g s3 s4 s5 s6 s17 wr => ∃ (k : Nat), s5 = s5 ∧ s6 = s6 ∧ k ≤ xs.length ∧ s17 = .int .i64 k ∧ s4 = .int .i64 (plcAt xs k) ∧ xs.length - k < g ∧ Hid (Own wr w.heap.size s3 (plcTo xs (k + 1))) ∧ Hid (Below w.heap.size w wr))
  case atStart => exact ⟨0, rfl, rfl, Nat.zero_le _, rfl, rfl, by omega, HO2, HB2⟩
  case round =>
    clear HO2 HB2
    obtain ⟨k, _, _, hk, rfl, rfl, hg, HO, HB⟩ := hrel
    cases gk with
    | zero => omega
    | succ g =>
    by_cases hlt : k < xs.length
    · obtain ⟨b, off, rfl, hb, hc⟩ := h.below HB.out (by intro e; rw [e] at hlt; simp at hlt)
      have r1 := hc k xs[k] (List.getElem?_eq_getElem hlt)
      have hxk := hx xs[k] (List.getElem_mem hlt)
      have hpb := plcAt_bd hx k
      have hnext : plcAt xs (k + 1) = if k % 2 = 0 then plcAt xs k + xs[k] else plcAt xs k - xs[k] := by
        rw [plcAt, List.getD_eq_getElem?_getD, List.getElem?_eq_getElem hlt]; rfl
      obtain ⟨x, hx0⟩ : ∃ x, x = xs[k] := ⟨_, rfl⟩
      obtain ⟨p, hp0⟩ : ∃ p, p = plcAt xs k := ⟨_, rfl⟩
      rw [← hx0] at r1 hxk hnext
      rw [← hp0] at hpb hnext ⊢
      obtain ⟨m1, m2⟩ := mod2z k
      have k1 : (k : Int) < (xs.length : Int) := by omega
      have k0 : (0 : Int) ≤ (k : Int) := by omega
      have hT := plcTo_succ xs (k + 1)
      have hown := HO.out
      have hsz := HB.out.size
      have hln : (plcTo xs (k + 1)).length ≤ 101 := by rw [plcTo_len]; omega
      by_cases he : k % 2 = 0
      · rw [if_pos he] at hnext
        rw [he] at m1 m2
        have kw : IntKind.i64.wrap (p + x) = p + x := IntWalk.i64_in _ (by omega)
        rw [hnext] at hT
        have HT := Lib.hid hT
        have HN := Lib.hid hnext
        clear hc hx0 hp0 hnext hT he HO
        go_wp2_with (at_builtin; go_loud (refine wpList_push (W := wr) rfl _ _ rfl w.heap.size _ (plcTo xs (k + 1)) (p + x) (by rfl) (by rfl) hown hsz (by omega) ?_))
        intro v3 w3 hown3 hgr3 hb3
        rw [← HT.out] at hown3
        have HO3 := Lib.hid hown3
        have HB3 := Lib.hid (HB.out.trans hb3)
        clear hown hown3 hgr3 hb3
        go_wp2_with fail
        go_roundg g
        case measure => omega
        case rel => exact ⟨k + 1, trivial, trivial, by omega, by go_num, by rw [HN.out], by omega, HO3, HB3⟩
      · rw [if_neg he] at hnext
        rw [show k % 2 = 1 from by omega] at m1 m2
        have kw : IntKind.i64.wrap (p - x) = p - x := IntWalk.i64_in _ (by omega)
        rw [hnext] at hT
        have HT := Lib.hid hT
        have HN := Lib.hid hnext
        clear hc hx0 hp0 hnext hT he HO
        go_wp2_with (at_builtin; go_loud (refine wpList_push (W := wr) rfl _ _ rfl w.heap.size _ (plcTo xs (k + 1)) (p - x) (by rfl) (by rfl) hown hsz (by omega) ?_))
        intro v3 w3 hown3 hgr3 hb3
        rw [← HT.out] at hown3
        have HO3 := Lib.hid hown3
        have HB3 := Lib.hid (HB.out.trans hb3)
        clear hown hown3 hgr3 hb3
        go_wp2_with fail
        go_roundg g
        case measure => omega
        case rel => exact ⟨k + 1, trivial, trivial, by omega, by go_num, by rw [HN.out], by omega, HO3, HB3⟩
    · obtain rfl : k = xs.length := by omega
      go_wp2_with fail
      go_ret
      exact ⟨_, rfl, HO.out, HB.out⟩
def betB (l a b : Int) : Bool := decide (min a b < l) && decide (l < max a b)
set_option maxHeartbeats 400000 in
theorem impl_isBetween (l a b : Int) (w : World) :
    Calls Tryz.prog 94 #[.int .i64 l, .int .i64 a, .int .i64 b] w fun e w' => e = .returned (.bool (betB l a b)) ∧ w = w' := by
  go_enter Tryz.func94, Tryz.ntmps94
  go_wp2_with fail
  all_goals
    go_ret
    refine ⟨ret_bool ?_, rfl⟩
    rw [Bool.eq_iff_iff]
    unfold betB
    simp only [Bool.and_eq_true, decide_eq_true_eq, Bool.false_eq_true, false_iff]
    omega
end Go.Proofs.YtkdlipbegdiaaaaGreatDoor
namespace Go.Proofs.YtkdlipbegdiaaaaGreatDoor
open Go.RowKit
/-- from block H on all lies as it lay -/
def Kept (H : Nat) (X X' : World) : Prop := X.heap.size ≤ X'.heap.size ∧ ∀ i, H ≤ i → i < X.heap.size → X'.heap[i]? = X.heap[i]?
theorem Kept.refl (H : Nat) (X : World) : Kept H X X := ⟨Nat.le_refl _, fun _ _ _ => rfl⟩
theorem Kept.trans {H : Nat} {X Y Z : World} (h : Kept H X Y) (k : Kept H Y Z) : Kept H X Z :=
  ⟨Nat.le_trans h.1 k.1, fun i h1 h2 => (k.2 i h1 (Nat.lt_of_lt_of_le h2 h.1)).trans (h.2 i h1 h2)⟩
theorem Kept.mono {H H' : Nat} {X Y : World} (h : Kept H X Y) (hH : H ≤ H') : Kept H' X Y := ⟨h.1, fun i h1 h2 => h.2 i (Nat.le_trans hH h1) h2⟩
theorem Kept.below {H : Nat} {X Y : World} (h : Below X.heap.size X Y) : Kept H X Y := ⟨h.size, fun i _ h2 => h.block i h2⟩
/-- what the iterator is told of its rounds: each goes on, and leaves the iterator's own blocks alone -/
def RoundsL (F : Fence) (P : Program) (l H : Nat) (LL : List (List Int)) (J : Nat → World → Prop) : Prop :=
  ∀ (m k : Nat) (L : List Int) (X : World) (A : Option Addr) (cap : Nat), LL[k]? = some L → J k X → Ints X A L → (∀ a, A = some a → H ≤ a.block) → L.length ≤ cap → cap ≤ maxLen →
    YieldAt F m P l #[.slice A L.length cap] X fun e X' => e = .returned (.bool true) ∧ J (k + 1) X' ∧ Kept H X X'
/-- what the iterator does: it hands out the lists, one after the other -/
def GivesL (F : Fence) (P : Program) (gf : Nat) (lb : Array Value) (LL : List (List Int)) (C : World → Prop) : Prop :=
  ∀ (m l : Nat) (J : Nat → World → Prop) (W : World), (∀ k X, J k X → C X) → (∀ k X Y, J k X → Below W.heap.size X Y → J k Y) → (∀ k X, J k X → W.heap.size ≤ X.heap.size) →
    RoundsL F P l W.heap.size LL J → J 0 W → CallsIn F m P gf (#[.func (.yield l) #[] #[]] ++ lb) W fun e W' => (∃ v, e = .returned v) ∧ J LL.length W'
variable {F : Fence} {n : Nat} {P : Program}
theorem below_put {B l : Nat} {X : World} {o : Obj} (h : B ≤ l) : Below B X (X.putObj l o) :=
  ⟨rfl, rfl, rfl, by simp, fun i hi => World.putObj_heap_other (by omega)⟩
/-- a range over such an iterator -/
theorem wp_rangeL {g : Operand} {ps : Array Tmp} {assign body : Code} {Q : Exit → Act → World → Prop} {a : Act} {w : World}
    (hro : F.round = none) (hd : F.depth = none) {gf : Nat} {lb : Array Value} (hg : a.eval g = .func (.func gf) #[] lb) (hFg : F.fn gf) (eg : ∀ args w, (callFunc gf args).run P w = .ok (.enter gf args) w)
    {LL : List (List Int)} {C : World → Prop} (hseq : GivesL F P gf lb LL C) (hps : ps.size = 1)
    (J : Nat → World → Prop) (hJC : ∀ k X, J k X → C X) (hJ : ∀ k X Y, J k X → Below w.heap.size X Y → J k Y) (h0 : J 0 w) (a₁ : Option Addr → Nat → Nat → Act)
    (hassign : ∀ (l m : Nat) (A : Option Addr) (len cap : Nat) (W : World) (K : Act → World → Prop), K (a₁ A len cap) W →
      assign.wpIn (F.inRound l) m P (Exit.then K (fun _ _ _ => False)) { tmps := (ps.zip #[Value.slice A len cap]).foldl (fun t (p, v) => t.setIfInBounds p v) a.tmps, defers := [] } W)
    (hbody : ∀ (l m k : Nat) (L : List Int) (A : Option Addr) (cap : Nat) (X : World), w.heap.size + 2 ≤ X.heap.size → LL[k]? = some L → J k X → Ints X A L → (∀ a, A = some a → w.heap.size + 2 ≤ a.block) → L.length ≤ cap → cap ≤ maxLen →
      body.wpIn (F.inRound l) m P (fun e _ X' => e = .normal ∧ J (k + 1) X' ∧ Kept w.heap.size X X') (a₁ A L.length cap) X)
    (hdone : ∀ (D : Nat) (W : World), w.heap.size ≤ D → J LL.length W → W.heap[D]? = some (.deferred (some [])) → Q .normal { a with defers := { target := .collected D, args := #[] } :: a.defers } W) :
    (Code.rangeFunc g ps assign body).wpIn F n P Q a w := by
  refine wpIn_rangeFunc fun fn hfn => ?_
  rw [hro]
  obtain ⟨rc, hrc⟩ : ∃ rc : LoopState → Loop, rc = fun st => { state := st, pending := none, fn, tmps := a.tmps, params := ps, assign, body, defers := w.heap.size } := ⟨_, rfl⟩
  obtain ⟨l, hl⟩ : ∃ l, l = w.heap.size + 1 := ⟨_, rfl⟩
  obtain ⟨W1, hW1⟩ : ∃ W1, W1 = (w.alloc (.deferred (some []))).alloc (.loop (rc .ready)) := ⟨_, rfl⟩
  have hz1 : W1.heap.size = w.heap.size + 2 := by rw [hW1]; simp
  have hb1 : Below w.heap.size w W1 := by rw [hW1]; exact ((Below.refl _ w).alloc (Nat.le_refl _) _).alloc (by simp) _
  have hl1 : W1.heap[l]? = some (.loop (rc .ready)) := by
    have := World.alloc_heap_new (w.alloc (.deferred (some []))) (.loop (rc .ready))
    rw [hW1, hl]; rwa [World.size_alloc] at this
  have hk1 : W1.heap[w.heap.size]? = some (.deferred (some [])) := by
    rw [hW1]; exact (Below.heap_alloc _ _ _ (by simp)).trans (World.alloc_heap_new w _)
  have hent : (Instr.enterLoop fn a.tmps ps assign body none).run P w = .ok (l, [{ target := .collected w.heap.size, args := #[] }]) W1 := by
    rw [run_enterLoop_outer, hW1, hrc, hl]
  refine ⟨l, _, W1, { target := .fn (.func gf) lb, args := #[.func (.yield l) #[] #[]] }, W1, gf, #[.func (.yield l) #[] #[]] ++ lb, W1, hent, ?_, ?_, ?_, (fun h => by rw [hd] at h; cases h), ?_⟩
  · simp only [resolve, hg]
    simp [go_sem]
  · intro f' hf'; simp [Target.leads] at hf'; subst hf'; exact hFg
  · simp [invoke, go_sem, eg]
  · refine (hseq (n - 1) l (fun k W => J k W ∧ W.heap[l]? = some (.loop (rc .ready)) ∧ W.heap[w.heap.size]? = some (.deferred (some []))) W1 (fun k X h => hJC k X h.1) ?_ ?_ ?_ ⟨hJ 0 w W1 h0 hb1, hl1, hk1⟩).mono ?_
    · rintro k X Y ⟨h1, h2, h3⟩ hb
      exact ⟨hJ k X Y h1 (hb.mono (by omega)), (hb.block l (by omega)).trans h2, (hb.block _ (by omega)).trans h3⟩
    · rintro k X ⟨_, h2, _⟩
      have := (Array.getElem?_eq_some_iff.1 h2).1
      omega
    · rintro m k L X A cap hL ⟨hj, hlX, hkX⟩ hI hA hc hm
      have hlt : l < X.heap.size := (Array.getElem?_eq_some_iff.1 hlX).1
      have hy := run_yield (P := P) (args := #[Value.slice A L.length cap]) hlX (by rw [hrc]; simp [hps])
      rw [hrc] at hy
      refine ⟨fn, _, assign, body, hy, roundIn_of_wpIn hfn (hassign l m A L.length cap X _ ⟨_, run_beginRound hlX (by rw [hrc]), ?_⟩)⟩
      obtain ⟨X2, hX2⟩ : ∃ X2, X2 = X.putObj l (.loop { rc .ready with state := .busy }) := ⟨_, rfl⟩
      have hl2 : X2.heap[l]? = some (.loop { rc .ready with state := .busy }) := by rw [hX2]; exact World.putObj_heap_same hlt
      have hz2 : X2.heap.size = X.heap.size := by rw [hX2]; simp
      have hs2 : ∀ i, i ≠ l → X2.heap[i]? = X.heap[i]? := fun i hi => by rw [hX2]; exact World.putObj_heap_other hi
      have hj2 : J k X2 := by rw [hX2]; exact hJ k X _ hj (below_put (by omega))
      have hI2 : Ints X2 A L := by
        intro hne
        obtain ⟨b, off, e, hb, hcell⟩ := hI hne
        refine ⟨b, off, e, by omega, fun j u hj => ?_⟩
        have hx := hcell j u hj
        obtain ⟨o, ho, hoc⟩ := cells_of_cell hx
        have hbl : b ≠ l := by
          intro eb
          subst eb
          rw [hlX] at ho
          cases ho
          cases hoc
        exact (World.cell?_of_block (hs2 b hbl)).trans hx
      rw [← hX2]
      refine wpIn_mono (hbody l m k L A cap X2 (by omega) hL hj2 hI2 (fun a e => by have := hA a e; omega) hc hm) ?_
      rintro e a3 X3 ⟨rfl, hj3, hk3⟩
      have hl3 : X3.heap[l]? = some (.loop { rc .ready with state := .busy }) := (hk3.2 l (by omega) (by omega)).trans hl2
      have hlt3 : l < X3.heap.size := (Array.getElem?_eq_some_iff.1 hl3).1
      have hr := run_endRound (P := P) none hl3
      have hrec : ({ (rc .ready : Loop) with state := .ready, pending := none } : Loop) = rc .ready := by rw [hrc]
      refine ⟨.bool true, X3.putObj l (.loop (rc .ready)), ?_, rfl, ⟨hJ _ X3 _ hj3 (below_put (by omega)), World.putObj_heap_same hlt3, ?_⟩, ?_, ?_⟩
      · rw [← hrec]; exact hr
      · rw [World.putObj_heap_other (by omega), hk3.2 _ (Nat.le_refl _) (by omega), hs2 _ (by omega)]
        exact hkX
      · have := hk3.1; simp; omega
      · intro i h1 h2
        rw [World.putObj_heap_other (by omega), hk3.2 i (by omega) (by omega), hs2 i (by omega)]
    · rintro e W2 ⟨⟨v, rfl⟩, hj, hl2, hk2⟩
      have hlt2 : l < W2.heap.size := (Array.getElem?_eq_some_iff.1 hl2).1
      refine ⟨none, W2.putObj l (.loop { rc .ready with state := .exhausted }), ?_, ?_⟩
      · have := run_endLoop (P := P) hl2 (by rw [hrc]; simp)
        rw [this, hrc]
      · exact hdone w.heap.size _ (Nat.le_refl _) (hJ _ W2 _ hj (below_put (by omega))) ((World.putObj_heap_other (by omega)).trans hk2)
end Go.Proofs.YtkdlipbegdiaaaaGreatDoor
namespace Go.Proofs.YtkdlipbegdiaaaaGreatDoor
structure Tab (n : Nat) (ps : List (List Nat)) (tab : List Ent) : Prop where
  ok : tab.all (entOk n ps) = true
  pats : patsOk n tab = true
  rot : chkR n tab = true
end Go.Proofs.YtkdlipbegdiaaaaGreatDoor
