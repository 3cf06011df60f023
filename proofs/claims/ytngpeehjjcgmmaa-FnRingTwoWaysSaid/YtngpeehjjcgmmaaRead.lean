/- The reader of a code, byte by byte: 'l6Open', 'pick', 'of'. Its place is bounded; nothing else is asked. -/
import Derived.Laws.BitsAllLaws
import Derived.Laws.BitsLemmas
import Derived.Test.YtngpeehjjcgmmaaRingA
namespace Go.Proofs.Ytngpeehjjcgmmaa
open Go.RowKit

/-- the cells of a slice of bytes, all in blocks below r -/
def Codes (w : World) (r : Nat) (A : Option Addr) (bs : List UInt8) : Prop :=
  bs ≠ [] → ∃ b off, A = some ⟨b, off, none⟩ ∧ b < r ∧ ∀ k c, bs[k]? = some c → w.cell? ⟨b, off + k, none⟩ = some (.int .u8 (c.toNat : Int))
theorem Codes.below {w w' : World} {r : Nat} {A : Option Addr} {bs : List UInt8} {B : Nat} (h : Codes w r A bs) (hb : Below B w w') (hr : r ≤ B) : Codes w' r A bs := by
  intro hn
  obtain ⟨b, off, e, hlt, hc⟩ := h hn
  exact ⟨b, off, e, hlt, fun k c hk => (hb.cell (by show b < B; omega)).trans (hc k c hk)⟩
theorem Codes.set_ {w : World} {r i : Nat} {A : Option Addr} {bs : List UInt8} (h : Codes w r A bs) (u : Value) : Codes (w.setCell ⟨r, i, none⟩ u) r A bs := by
  intro hn
  obtain ⟨b, off, e, hlt, hc⟩ := h hn
  refine ⟨b, off, e, hlt, fun k c hk => ?_⟩
  rw [World.cell?_of_block (w := w) (heap_setCell_other w ⟨r, i, none⟩ b u (by show b ≠ r; omega))]
  exact hc k c hk

/-- the reader in block r: the code's bytes bs, the place q -/
structure Rd (w : World) (r : Nat) (A : Option Addr) (cap : Nat) (bs : List UInt8) (q : Nat) : Prop where
  blk : Blk w r 54 #[.slice A bs.length cap, .int .i64 q]
  codes : Codes w r A bs
  len : bs.length ≤ 2000

theorem Rd.below {w w' : World} {r : Nat} {A : Option Addr} {cap : Nat} {bs : List UInt8} {q B : Nat} (h : Rd w r A cap bs q) (hb : Below B w w') (hr : r < B) : Rd w' r A cap bs q :=
  ⟨h.blk.below hb hr, h.codes.below hb (Nat.le_of_lt hr), h.len⟩

theorem wrap_small {x : Int} (h0 : 0 ≤ x) (h1 : x ≤ 1000000000000) : IntKind.i64.wrap x = x := by rw [IntKind.wrap_i64]; omega

theorem pick_wraps {z1 z2 q m3 : Nat} (h1 : z1 < 256) (h2 : z2 < 256) (hq : q ≤ 1000000) (h3 : m3 ≤ q) :
    IntKind.i64.wrap (z1 : Int) = (z1 : Int) ∧ IntKind.i64.wrap (z2 : Int) = (z2 : Int) ∧ IntKind.i64.wrap ((z1 : Int) * 131) = ((z1 : Int) * 131) ∧ IntKind.i64.wrap ((q : Int) * 7) = ((q : Int) * 7) ∧ IntKind.i64.wrap ((q : Int) * 7 + 3) = ((q : Int) * 7 + 3) ∧ IntKind.i64.wrap ((z2 : Int) * 1117) = ((z2 : Int) * 1117) ∧ IntKind.i64.wrap ((z1 : Int) * 131 + (z2 : Int) * 1117) = ((z1 : Int) * 131 + (z2 : Int) * 1117) ∧ IntKind.i64.wrap ((q : Int) * 29) = ((q : Int) * 29) ∧ IntKind.i64.wrap ((z1 : Int) * 131 + (z2 : Int) * 1117 + (q : Int) * 29) = ((z1 : Int) * 131 + (z2 : Int) * 1117 + (q : Int) * 29) ∧ IntKind.i64.wrap ((m3 : Int) * 53) = ((m3 : Int) * 53) ∧ IntKind.i64.wrap ((z1 : Int) * 131 + (z2 : Int) * 1117 + (q : Int) * 29 + (m3 : Int) * 53) = ((z1 : Int) * 131 + (z2 : Int) * 1117 + (q : Int) * 29 + (m3 : Int) * 53) := by
  refine ⟨?_, ?_, ?_, ?_, ?_, ?_, ?_, ?_, ?_, ?_, ?_⟩ <;> exact wrap_small (by omega) (by omega)

theorem ofInt_nat64 (a : Nat) (ha : a < 9223372036854775808) : (BitVec.ofInt 64 (a : Int)).toNat = a := by
  rw [BitVec.ofInt_natCast, BitVec.toNat_ofNat]; exact Nat.mod_eq_of_lt (by omega)
theorem xor_nat (a b : Nat) (ha : a < 9223372036854775808) (hb : b < 9223372036854775808) : bits .xor .i64 (a : Int) (b : Int) = ((a ^^^ b : Nat) : Int) := by
  have hx : a ^^^ b < 2 ^ 63 := Nat.xor_lt_two_pow (by omega) (by omega)
  show IntKind.i64.wrap ((BitVec.ofInt 64 (a : Int) ^^^ BitVec.ofInt 64 (b : Int)).toNat : Int) = _
  rw [BitVec.toNat_xor, ofInt_nat64 a ha, ofInt_nat64 b hb, IntKind.wrap_i64]
  omega
theorem pick_end {z1 z2 q m3 n : Nat} (h1 : z1 < 256) (h2 : z2 < 256) (hq : q ≤ 1000000) (h3 : m3 ≤ q) (hn : 0 < n) :
    ∃ k : Nat, k < n ∧ (bits .xor .i64 ((z1 : Int) * 131 + (z2 : Int) * 1117 + (q : Int) * 29 + (m3 : Int) * 53) (((z1 : Int) * 131 + (z2 : Int) * 1117 + (q : Int) * 29 + (m3 : Int) * 53) / 64)).tmod (n : Int) = (k : Int) := by
  obtain ⟨X, hX⟩ : ∃ X, X = z1 * 131 + z2 * 1117 + q * 29 + m3 * 53 := ⟨_, rfl⟩
  have e : (z1 : Int) * 131 + (z2 : Int) * 1117 + (q : Int) * 29 + (m3 : Int) * 53 = (X : Int) := by omega
  refine ⟨(X ^^^ (X / 64)) % n, Nat.mod_lt _ hn, ?_⟩
  rw [e, show (X : Int) / 64 = ((X / 64 : Nat) : Int) from by omega, xor_nat X (X / 64) (by omega) (by omega), Int.tmod_eq_emod_of_nonneg (by omega)]
  simp

set_option maxHeartbeats 2000000 in
set_option maxRecDepth 100000 in
theorem spec_pick (w : World) (r : Nat) (A : Option Addr) (cap : Nat) (bs : List UInt8) (q n : Nat) (h : Rd w r A cap bs q) (hq : q ≤ 1000000) (hn : n ≤ 1000000) :
    Calls Try.prog 38 #[ptr r, .int .i64 n] w fun e w' => ∃ k : Nat, e = .returned (.int .i64 k) ∧ (k < n ∨ k = 0) ∧ Rd w' r A cap bs (q + 1) ∧ w.grownBy w' (some r) := by
  have c0 := h.blk.cell 0
  have c1 := h.blk.cell 1
  have f1 := h.blk.frozen 1
  have hl := h.len
  have hset : ∀ m, Rd ((w.setCell ⟨r, 1, none⟩ (.int .i64 ((q : Int) + 1))).drewN m) r A cap bs (q + 1) := fun m =>
    ⟨(h.blk.set_ 1 _).drewN m, h.codes.set_ _, h.len⟩
  have hgr : ∀ m, w.grownBy ((w.setCell ⟨r, 1, none⟩ (.int .i64 ((q : Int) + 1))).drewN m) (some r) := fun m =>
    ⟨rfl, rfl, rfl, by simp, fun k _ hk => heap_setCell_other w ⟨r, 1, none⟩ k _ (fun e => hk (by have e' : k = r := e; rw [e']))⟩
  have b0 := (h.blk.set_ 1 (.int .i64 ((q : Int) + 1))).cell 0
  have b1 := (h.blk.set_ 1 (.int .i64 ((q : Int) + 1))).cell 1
  by_cases g0 : n < 1
  · obtain rfl : n = 0 := by omega
    go_enter Try.func38, Try.ntmps38
    go_wp2_with fail
    go_ret
    exact ⟨0, rfl, Or.inr rfl, hset 0, hgr 0⟩
  · by_cases g1 : bs.length = 0
    · go_enter Try.func38, Try.ntmps38
      go_wp2_with fail
      go_ret
      exact ⟨0, rfl, Or.inr rfl, hset 0, hgr 0⟩
    · by_cases g2 : q < bs.length
      · obtain ⟨b, off, rfl, hb, hc⟩ := (h.codes.set_ (i := 1) (.int .i64 ((q : Int) + 1))) (by intro e; rw [e] at g1; exact g1 rfl)
        have cc := hc q _ (List.getElem?_eq_getElem g2)
        obtain ⟨z, hz, hz1⟩ : ∃ z, z = bs[q].toNat ∧ z < 256 := ⟨_, rfl, bs[q].toNat_lt⟩
        rw [← hz] at cc
        have e1 : ((bs.length : Int) == 0) = false := by rw [beq_eq_false_iff_ne]; omega
        have e2 : wrap64 (z : Int) = (z : Int) := by unfold wrap64; omega
        have t1 : ((z : Int).tmod (n : Int)) = ((z % n : Nat) : Int) := by rw [Int.tmod_eq_emod_of_nonneg (by omega)]; simp
        have hlt := Nat.mod_lt z (show 0 < n by omega)
        have HN := Lib.hid (show (z % n < n ∨ z % n = 0) from Or.inl hlt)
        have HS := Lib.hid hset
        have HG := Lib.hid hgr
        clear hc hlt hz hset hgr
        go_enter Try.func38, Try.ntmps38
        go_wp2_with fail
        go_ret
        exact ⟨z % n, ret_int (by simp), HN.out, HS.out 0, HG.out 0⟩
      · obtain ⟨b, off, rfl, hb, hc⟩ := (h.codes.set_ (i := 1) (.int .i64 ((q : Int) + 1))) (by intro e; rw [e] at g1; exact g1 rfl)
        obtain ⟨m1, hm1⟩ : ∃ m, m = q % bs.length := ⟨_, rfl⟩
        obtain ⟨m2, hm2⟩ : ∃ m, m = (q * 7 + 3) % bs.length := ⟨_, rfl⟩
        obtain ⟨m3, hm3⟩ : ∃ m, m = q / bs.length := ⟨_, rfl⟩
        have l1 : m1 < bs.length := hm1 ▸ Nat.mod_lt _ (by omega)
        have l2 : m2 < bs.length := hm2 ▸ Nat.mod_lt _ (by omega)
        have l3 : m3 ≤ q := hm3 ▸ Nat.div_le_self _ _
        have cc1 := hc m1 _ (List.getElem?_eq_getElem l1)
        have cc2 := hc m2 _ (List.getElem?_eq_getElem l2)
        obtain ⟨z1, hz1, hy1⟩ : ∃ z, z = bs[m1].toNat ∧ z < 256 := ⟨_, rfl, bs[m1].toNat_lt⟩
        obtain ⟨z2, hz2, hy2⟩ : ∃ z, z = bs[m2].toNat ∧ z < 256 := ⟨_, rfl, bs[m2].toNat_lt⟩
        rw [← hz1] at cc1
        rw [← hz2] at cc2
        have e1 : ((bs.length : Int) == 0) = false := by rw [beq_eq_false_iff_ne]; omega
        have t1 : ((q : Int).tmod (bs.length : Int)) = (m1 : Int) := by rw [Int.tmod_eq_emod_of_nonneg (by omega), hm1]; simp
        have t2 : (((q : Int) * 7 + 3).tmod (bs.length : Int)) = (m2 : Int) := by rw [Int.tmod_eq_emod_of_nonneg (by omega), hm2]; simp
        have t3 : ((q : Int).tdiv (bs.length : Int)) = (m3 : Int) := by rw [Int.tdiv_eq_ediv_of_nonneg (by omega), hm3]; simp
        have t4 : ((q : Int) % (bs.length : Int)) = (m1 : Int) := by rw [hm1]; simp
        have t5 : (((q : Int) * 7 + 3) % (bs.length : Int)) = (m2 : Int) := by rw [hm2]; simp
        have t6 : ((q : Int) / (bs.length : Int)) = (m3 : Int) := by rw [hm3]; simp
        have HS := Lib.hid hset
        have HG := Lib.hid hgr
        clear hc hz1 hz2 hset hgr hm1 hm2 hm3
        go_enter Try.func38, Try.ntmps38
        go_wp2_with fail
        obtain ⟨w0, w1, w2, w3, w4, w5, w6, w7, w8, w9, w10⟩ := pick_wraps hy1 hy2 hq l3
        go_quiet (fail)
        go_wp2_with fail
        obtain ⟨k, hk1, hk2⟩ := pick_end hy1 hy2 hq l3 (show 0 < n by clear t1 t2 t3 t4 t5 t6; omega)
        go_ret
        exact ⟨k, ret_int hk2, Or.inl hk1, HS.out _, HG.out _⟩
end Go.Proofs.Ytngpeehjjcgmmaa
