/- A cell of a stack, the crease between two, the corner of four: the program's. No condition but sizes. -/
import Derived.Test.YtmohfibgefcefaaGreatDoorStkH
namespace Go.Proofs.YtmohfibgefcefaaGreatDoor
open Go.RowKit

theorem levelT_some {S : List Cl} {r c k : Nat} (hk : k < S.length) (h1 : S[k].1 = r) (h2 : S[k].2.1 = c) (hb : ∀ j, j < k → ∀ x, S[j]? = some x → ¬ (x.1 = r ∧ x.2.1 = c)) : levelT S r c = some k := by
  unfold levelT
  rw [List.findIdx?_eq_some_iff_getElem]
  refine ⟨hk, by simp [h1, h2], fun j hj => ?_⟩
  have := hb j hj _ (List.getElem?_eq_getElem (by omega))
  simp only [Bool.and_eq_true, decide_eq_true_eq]
  exact this
theorem levelT_none {S : List Cl} {r c : Nat} (hb : ∀ j, j < S.length → ∀ x, S[j]? = some x → ¬ (x.1 = r ∧ x.2.1 = c)) : levelT S r c = none := by
  unfold levelT
  rw [List.findIdx?_eq_none_iff]
  intro x hx
  obtain ⟨j, hj⟩ := List.getElem?_of_mem hx
  have := hb j (List.getElem?_eq_some_iff.1 hj).1 x hj
  simp only [Bool.and_eq_false_iff, decide_eq_false_iff_not]
  rcases Classical.em (x.1 = r) with h | h
  · exact Or.inr fun e => this ⟨h, e⟩
  · exact Or.inl h
theorem Tryz.infoCe : (Tryz.prog.info? 30).map (·.size) = some 4 := by kernel_rfl
theorem res_cell {fn : Func} {a p u : Tmp} (h : fn.results = #[.tmp a, .cell p 30, .tmp u]) (tmps : Array Value) (w : World) (g : Nat) (cs : Array Value) (hcs : cs.size = 4) (hp : tmps.getD p undef = .pointer (some ⟨g, 0, none⟩)) (hk : Blk w g 30 cs) :
    (results fn tmps).run Tryz.prog w = .ok (.tuple #[tmps.getD a undef, .agg cs, tmps.getD u undef]) w := by
  have hp' : tmps[p]?.getD undef = .pointer (some ⟨g, 0, none⟩) := by simpa using hp
  simp only [results, h]
  simp [asAddr, Result.andThen, hp', run_loadVar_row w g 30 30 cs (0, 0) _ hk Tryz.underlying30 rfl (by rw [hcs]; exact Tryz.infoCe)]
theorem cell_facts {w : World} {g : Nat} {t : TypeId} {a b c d : Value} (h : Blk w g t #[a, b, c, d]) : w.cell? ⟨g, 0, none⟩ = some a ∧ w.cell? ⟨g, 1, none⟩ = some b ∧ w.cell? ⟨g, 2, none⟩ = some c ∧ w.cell? ⟨g, 3, none⟩ = some d ∧ w.frozen? ⟨g, 0, none⟩ = false ∧ w.frozen? ⟨g, 1, none⟩ = false ∧ w.frozen? ⟨g, 2, none⟩ = false ∧ w.frozen? ⟨g, 3, none⟩ = false :=
  ⟨h.cell 0, h.cell 1, h.cell 2, h.cell 3, h.frozen 0, h.frozen 1, h.frozen 2, h.frozen 3⟩
theorem cell_stored {w : World} {g : Nat} {t : TypeId} {a b c d : Value} (h : Blk w g t #[a, b, c, d]) (a' b' c' d' : Value) : Blk ((((w.setCell ⟨g, 0, none⟩ a').setCell ⟨g, 1, none⟩ b').setCell ⟨g, 2, none⟩ c').setCell ⟨g, 3, none⟩ d') g t #[a', b', c', d'] := by
  simpa using (((h.set_ 0 a').set_ 1 b').set_ 2 c').set_ 3 d'
theorem grown_cell (w : World) (g : Nat) (a' b' c' d' : Value) : w.grownBy ((((w.setCell ⟨g, 0, none⟩ a').setCell ⟨g, 1, none⟩ b').setCell ⟨g, 2, none⟩ c').setCell ⟨g, 3, none⟩ d') (some g) :=
  (((grown_setX w g 0 a').trans (grown_setX _ g 1 b')).trans (grown_setX _ g 2 c')).trans (grown_setX _ g 3 d')
/-- what cellAt tells -/
def cellV (o : Option (Nat × Cl)) : Value := match o with
  | some p => .tuple #[.int .i64 p.1, .agg #[.int .i64 p.2.1, .int .i64 p.2.2.1, .bool p.2.2.2.1, .bool p.2.2.2.2], .bool true]
  | none => .tuple #[.int .i64 0, .agg #[.int .i64 0, .int .i64 0, .bool false, .bool false], .bool false]
theorem crO_some {l : List UInt8} {r c r' c' : Int} {a b : Nat × Cl} (h1 : cellO l r c = some a) (h2 : cellO l r' c' = some b) : crO l r c r' c' = [if (if b.1 < a.1 then b.2 else a.2).2.2.1 then 86 else 77] := by
  unfold crO; rw [h1, h2]
theorem crO_no1 {l : List UInt8} {r c r' c' : Int} (h1 : cellO l r c = none) : crO l r c r' c' = [] := by
  unfold crO; rw [h1]
theorem crO_no2 {l : List UInt8} {r c r' c' : Int} (h2 : cellO l r' c' = none) : crO l r c r' c' = [] := by
  unfold crO; rw [h2]
  cases cellO l r c <;> rfl
theorem cellO_lt {l : List UInt8} {r c : Int} {a : Nat × Cl} (h : cellO l r c = some a) : a.1 < 32 := by
  unfold cellO at h
  split at h
  · next hc =>
    obtain ⟨q1, q2⟩ := shB_parts hc.1
    cases hv : levelT (stackT l) r.toNat c.toNat with
    | none => rw [hv] at h; cases h
    | some k =>
      rw [hv] at h
      cases h
      have : k < (stackT l).length := by
        unfold levelT at hv
        exact (List.findIdx?_eq_some_iff_getElem.1 hv).1
      have h2 := stackT_len q2
      have h3 := pow5 q1
      show k < 32
      omega
  · cases h
end Go.Proofs.YtmohfibgefcefaaGreatDoor
