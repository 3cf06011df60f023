/- A slice of vertices (angles, creases) as it lies in memory; the laws' own helpers that only read it. No condition but sizes. -/
import Derived.Test.YtdpfnhkhojiddaaLawA
namespace Go.Proofs.Ytdpfnhkhojiddaa
open Go.RowKit

theorem Try.infoVx : (Try.prog.info? 31).map (fun i => (i.zero, i.size, i.bytes)) = some (some (.agg #[.slice none 0 0, .slice none 0 0]), 2, 48) := by kernel_rfl
/-- a vertex: angles, creases -/
abbrev Vx := List Int × List Int
/-- a slice of integers as a value -/
def IntsV (w : World) (V : Value) (xs : List Int) : Prop := ∃ A c, V = .slice A xs.length c ∧ Ints w A xs ∧ xs.length ≤ c ∧ c ≤ maxLen
theorem IntsV.below {w w' : World} {V : Value} {xs : List Int} (h : IntsV w V xs) (hb : Below w.heap.size w w') : IntsV w' V xs := by
  obtain ⟨A, c, e, hI, h1, h2⟩ := h
  exact ⟨A, c, e, hI.below hb, h1, h2⟩
theorem IntsV.of_own {w : World} {B : Nat} {v : Value} {xs : List Int} (h : Own w B v xs) : IntsV w v xs := by
  obtain ⟨A, c, e, hI, h1, h2⟩ := h.form
  exact ⟨A, c, e, hI, h1, h2⟩
/-- the vertices vs lie from A on, two cells each -/
def Verts (w : World) (A : Option Addr) (vs : List Vx) : Prop :=
  vs ≠ [] → ∃ b off, A = some ⟨b, off, none⟩ ∧ b < w.heap.size ∧ ∀ k v, vs[k]? = some v → ∃ U V, w.cell? ⟨b, off + k * 2, none⟩ = some U ∧ w.cell? ⟨b, off + k * 2 + 1, none⟩ = some V ∧ IntsV w U v.1 ∧ IntsV w V v.2
theorem Verts.below {w w' : World} {A : Option Addr} {vs : List Vx} (h : Verts w A vs) (hb : Below w.heap.size w w') : Verts w' A vs := by
  intro hn
  obtain ⟨b, off, e, hlt, hc⟩ := h hn
  refine ⟨b, off, e, Nat.lt_of_lt_of_le hlt hb.size, fun k v hk => ?_⟩
  obtain ⟨U, V, h1, h2, h3, h4⟩ := hc k v hk
  exact ⟨U, V, (hb.cell (p := ⟨b, off + k * 2, none⟩) hlt).trans h1, (hb.cell (p := ⟨b, off + k * 2 + 1, none⟩) hlt).trans h2, h3.below hb, h4.below hb⟩
/-- the vertex k, its fields written out -/
theorem Verts.at_ {w : World} {A : Option Addr} {vs : List Vx} {k : Nat} (h : Verts w A vs) (hk : k < vs.length) :
    ∃ b off A1 c1 A2 c2, A = some ⟨b, off, none⟩ ∧ b < w.heap.size ∧ w.cell? ⟨b, off + k * 2, none⟩ = some (.slice A1 vs[k].1.length c1) ∧ w.cell? ⟨b, off + k * 2 + 1, none⟩ = some (.slice A2 vs[k].2.length c2) ∧
      Ints w A1 vs[k].1 ∧ vs[k].1.length ≤ c1 ∧ c1 ≤ maxLen ∧ Ints w A2 vs[k].2 ∧ vs[k].2.length ≤ c2 ∧ c2 ≤ maxLen := by
  obtain ⟨b, off, e, hb, hc⟩ := h (by intro e; subst e; simp at hk)
  obtain ⟨U, V, h1, h2, ⟨A1, c1, rfl, i1, l1, m1⟩, ⟨A2, c2, rfl, i2, l2, m2⟩⟩ := hc k vs[k] (List.getElem?_eq_getElem hk)
  exact ⟨b, off, A1, c1, A2, c2, e, hb, h1, h2, i1, l1, m1, i2, l2, m2⟩

/-- what is left of a purse behind lists -/
def szB (xs : List Int) (left : Int) : Int := if left - xs.length < 0 then -1 else left - xs.length
def szV (v : Vx) (left : Int) : Int := if szB v.1 left < 0 then -1 else szB v.2 (szB v.1 left)
def szGo : List Vx → Int → Int
  | [], left => left
  | v :: r, left => if szV v left < 0 then -1 else szGo r (szV v left)
def szL (vs : List Vx) (left : Int) : Int := if left - vs.length < 0 then -1 else szGo vs (left - vs.length)


end Go.Proofs.Ytdpfnhkhojiddaa
