/- Parts laid flat: the folds of a strip or a ring, one after the other. No condition but sizes. -/
import Derived.Test.YtngpeehjjcgmmaaFlatB
import Derived.Test.YtngpeehjjcgmmaaBytes
import Derived.Test.YtngpeehjjcgmmaaRingA
namespace Go.Proofs.Ytngpeehjjcgmmaa
open Go.RowKit

theorem Try.infoFd : (Try.prog.info? 73).map (fun i => (i.zero, i.size, i.bytes)) = some (some (.agg #[.int .i64 0, .int .i64 0, .int .i64 0, .bool false]), 4, 32) := by kernel_rfl
/-- a fold: the part ahead, the part behind, the place, is the part behind the higher one -/
abbrev Fd := Nat × Nat × Int × Bool
def fdV (f : Fd) : List Value := [.int .i64 f.1, .int .i64 f.2.1, .int .i64 f.2.2.1, .bool f.2.2.2]
def fdL (fs : List Fd) : List Value := fs.flatMap fdV
theorem fdL_len (fs : List Fd) : (fdL fs).length = fs.length * 4 := by
  induction fs with
  | nil => rfl
  | cons f r ih =>
    show (fdV f ++ fdL r).length = _
    rw [List.length_append, ih, List.length_cons]
    show 4 + _ = _
    omega
theorem fdL_snoc (fs : List Fd) (f : Fd) : fdL (fs ++ [f]) = fdL fs ++ fdV f := by simp [fdL]
theorem fdL_get {fs : List Fd} {k j : Nat} (hk : k < fs.length) (hj : j < 4) : (fdL fs)[k * 4 + j]? = (fdV fs[k])[j]? := by
  induction fs generalizing k with
  | nil => simp at hk
  | cons f r ih =>
    show (fdV f ++ fdL r)[k * 4 + j]? = _
    have h4 : (fdV f).length = 4 := rfl
    cases k with
    | zero =>
      rw [Nat.zero_mul, Nat.zero_add, List.getElem?_append_left (by omega)]; rfl
    | succ k =>
      rw [List.getElem?_append_right (by omega), h4, show (k + 1) * 4 + j - 4 = k * 4 + j from by omega]
      exact ih (by simpa using hk)
theorem own_below2' {w w' : World} {B : Nat} {e : TypeId} {z n : Nat} {v : Value} {xs : List Value} (h : w.ownsRow B e z v n xs) (hb : Below w.heap.size w w') : w'.ownsRow B e z v n xs :=
  h.kept (row := none) ⟨hb.os, hb.tape, hb.output, hb.size, fun i hi _ => hb.block i hi⟩ (by cases hv : v.ownBlock <;> simp)
/-- folds in a row of the call's own -/
abbrev OwnFr (w : World) (B : Nat) (v : Value) (n : Nat) (L : List Value) : Prop := w.ownsRow B 73 4 v n L
def Moved (W : World) (v v' : Value) : Prop := v'.ownBlock = v.ownBlock ∨ ∀ g, v'.ownBlock = some g → W.heap.size ≤ g
set_option maxRecDepth 100000 in
theorem run_appFd (W : World) (B : Nat) (ty : TypeId) (v : Value) (n : Nat) (L : List Value) (A : Option Addr) (m c : Nat) (news : List Value) (hown : OwnFr W B v n L) (hl : news.length = m * 4)
    (hA : A = none → m = 0) (hnews : ∀ a, A = some a → ∀ j u, news[j]? = some u → W.cell? (a.add j) = some u) (h1 : ∀ u ∈ news, u.oneCell' = true) (hB : B ≤ W.heap.size) (hn : n + m ≤ 1000000000000) :
    ∃ v' w', (Builtin.append_ #[66, 66] ty #[v, .slice A m c]).run Try.prog W = .ok v' w' ∧ OwnFr w' B v' (n + m) (L ++ news) ∧ W.grownBy w' v.ownBlock ∧ Below B W w' ∧ Moved W v v' ∧
      (∀ g cap, v = .slice (some ⟨g, 0, none⟩) n cap → n + m ≤ cap → v' = .slice (some ⟨g, 0, none⟩) (n + m) cap) := by
  obtain ⟨i0, hi, hz0, hz1, hz2⟩ := info_parts Try.infoFd
  cases A with
  | none =>
    have hm := hA rfl
    subst hm
    have hnil : news = [] := List.eq_nil_of_length_eq_zero (by omega)
    subst hnil
    refine ⟨v, W, run_app_nil W B _ ty _ i0 4 Try.underlying66 hi v _ _ hown c, by simpa using hown, World.grownBy.refl W _, Below.refl _ _, Or.inl rfl, fun g cap e _ => by simpa using e⟩
  | some ad =>
    have hnews' := hnews ad rfl
    obtain ⟨v', w', hrun, h2, h3, _⟩ := run_append_own (P := Try.prog) W B 66 ty 73 i0 (.agg #[.int .i64 0, .int .i64 0, .int .i64 0, .bool false]) 4 32 Try.underlying66 hi hz0 hz1 hz2 rfl (by decide) v _ _ hown ad m c news hl hnews' h1 (by unfold maxLen; omega) (by omega) hB
    have hroom : ∀ g cap, v = .slice (some ⟨g, 0, none⟩) n cap → n + m ≤ cap → v' = .slice (some ⟨g, 0, none⟩) (n + m) cap := by
      intro g cap hv hr
      rcases hown.2 with ⟨e, _⟩ | ⟨g', cap', cur, e, hb, hg, hnc, hcm, hcs, htake⟩
      · rw [hv] at e; cases e
      · rw [hv] at e
        injection e with e1 e2 e3
        injection e1 with e1
        injection e1 with e1
        subst e1 e3
        subst hv
        have hcl : ∀ j, j < news.length → n * 4 + j < cur.size := by intro j hj; omega
        have hrun2 := run_append_room_cells (P := Try.prog) W 66 ty 73 i0 Try.underlying66 hi g 0 n cap ad m c news (by rw [hz1]; exact hl) hnews' h1 hr
          (by intro j hj
              rw [hz1, cell_of_row W g _ cur 73 (0, 0) hg, Nat.zero_add, Array.getElem?_eq_getElem (hcl j hj)]; rfl) (by intro j _; simp [World.frozen?, hg])
        rw [hrun2] at hrun
        exact ((Result.ok.injEq _ _ _ _ ▸ hrun).1).symm
    refine ⟨v', w', hrun, h2, h3, (Below.refl _ _).grown h3 hB fun k hk => (hown.lt k hk).1, ?_, hroom⟩
    rcases hown.2 with ⟨e, h0⟩ | ⟨g, cap, cur, e, hb, hg, hnc, hcm, hcs, htake⟩
    · right
      have hx0 : L = [] := List.eq_nil_of_length_eq_zero (by rw [hown.1, h0])
      subst e h0 hx0
      obtain ⟨v2, w2, hrun2, h22, _, _⟩ := run_append_own (P := Try.prog) W W.heap.size 66 ty 73 i0 (.agg #[.int .i64 0, .int .i64 0, .int .i64 0, .bool false]) 4 32 Try.underlying66 hi hz0 hz1 hz2 rfl (by decide) (.slice none 0 0) 0 [] ⟨rfl, Or.inl ⟨rfl, rfl⟩⟩ ad m c news hl hnews' h1 (by unfold maxLen; omega) (by omega) (Nat.le_refl _)
      rw [hrun2] at hrun
      injection hrun with e1 e2
      subst e1 e2
      exact fun g hg => (h22.lt g hg).1
    · by_cases hr : n + m ≤ cap
      · left
        rw [hroom g cap e hr, e]; rfl
      · right
        subst e
        obtain ⟨v2, w2, hrun2, hown2, _⟩ := run_append_arg_grows (P := Try.prog) W 66 ty 73 i0 (.agg #[.int .i64 0, .int .i64 0, .int .i64 0, .bool false]) 4 32 Try.underlying66 hi hz0 hz1 hz2 rfl (by decide) ⟨g, 0, none⟩ n cap L hown.1
          (fun j u hj => hown.cells (g := g) rfl j u hj) ad m c news hl hnews' (by omega) (by unfold maxLen; omega) (by omega)
        rw [hrun2] at hrun
        injection hrun with e1 e2
        subst e1 e2
        exact fun q hq => (hown2.lt q hq).1

theorem wp_appFd {o : Oper} {a : Act} {W : World} {K : Act → World → Prop} {Q : Exit → Act → World → Prop} (s x : Operand)
    (ho : o.op = .call { callee := .builtin .append, args := #[s, x], argTypes := #[66, 66] })
    (B : Nat) (v : Value) (n : Nat) (L : List Value) (A : Option Addr) (m c : Nat) (news : List Value) (hs : a.eval s = v) (hx : a.eval x = .slice A m c) (hown : OwnFr W B v n L) (hl : news.length = m * 4)
    (hA : A = none → m = 0) (hnews : ∀ a, A = some a → ∀ j u, news[j]? = some u → W.cell? (a.add j) = some u) (h1 : ∀ u ∈ news, u.oneCell' = true) (hB : B ≤ W.heap.size) (hn : n + m ≤ 1000000000000)
    (h : ∀ v' w', OwnFr w' B v' (n + m) (L ++ news) → W.grownBy w' v.ownBlock → Below B W w' → Moved W v v' → (∀ g cap, v = .slice (some ⟨g, 0, none⟩) n cap → n + m ≤ cap → v' = .slice (some ⟨g, 0, none⟩) (n + m) cap) → K (a.put o.dst v') w') : o.wp Try.prog a W K Q := by
  obtain ⟨v', w', hrun, h2, h3, h4, h5, h6⟩ := run_appFd W B o.type v n L A m c news hown hl hA hnews h1 hB hn
  unfold Oper.wp execOp
  simp only [ho, resolve, invoke, builtin, Sem.run_bind, Sem.run_pure, Result.andThen_ok, List.map_toArray, List.map_cons, List.map_nil, hs, hx, hrun]
  exact h v' w' h2 h3 h4 h5 h6

theorem step_appFd {ops : Array Oper} {o : Oper} {a : Act} {W : World} {K : Act → World → Prop} {Q : Exit → Act → World → Prop} {E : Prop} (hgd : o.guard = none) (s x : Operand)
    (ho : o.op = .call { callee := .builtin .append, args := #[s, x], argTypes := #[66, 66] })
    (B : Nat) (v : Value) (n : Nat) (L : List Value) (A : Option Addr) (m c : Nat) (news : List Value) (hs : a.eval s = v) (hx : a.eval x = .slice A m c) (hown : OwnFr W B v n L) (hl : news.length = m * 4)
    (hA : A = none → m = 0) (hnews : ∀ a, A = some a → ∀ j u, news[j]? = some u → W.cell? (a.add j) = some u) (h1 : ∀ u ∈ news, u.oneCell' = true) (hB : B ≤ W.heap.size) (hn : n + m ≤ 1000000000000)
    (h : ∀ v' w', OwnFr w' B v' (n + m) (L ++ news) → W.grownBy w' v.ownBlock → Below B W w' → Moved W v v' → (∀ g cap, v = .slice (some ⟨g, 0, none⟩) n cap → n + m ≤ cap → v' = .slice (some ⟨g, 0, none⟩) (n + m) cap) → K (a.put o.dst v') w') :
    if Region.wanted o (yielded ops a.tmps) = true then Oper.wp Try.prog o a W K Q else E := by
  have hw : Region.wanted o (yielded ops a.tmps) = true := by simp [Region.wanted, hgd]
  rw [if_pos hw]
  exact wp_appFd s x ho B v n L A m c news hs hx hown hl hA hnews h1 hB hn h

theorem grown_setC (w : World) (g i : Nat) (v : Value) : w.grownBy (w.setCell ⟨g, i, none⟩ v) (some g) :=
  ⟨rfl, rfl, rfl, by simp, fun n hn hne => heap_setCell_other w ⟨g, i, none⟩ n v (by intro e; apply hne; exact congrArg some e)⟩
theorem news_fd (W : World) (f : Fd) : ∀ a, some (⟨W.heap.size, 0, none⟩ : Addr) = some a → ∀ j u, (fdV f)[j]? = some u → (W.alloc (.cells #[.int .i64 f.1, .int .i64 f.2.1, .int .i64 f.2.2.1, .bool f.2.2.2] 73)).cell? (a.add j) = some u := by
  intro a ha j u hj
  cases ha
  have hK := Blk.new W 73 #[.int .i64 f.1, .int .i64 f.2.1, .int .i64 f.2.2.1, .bool f.2.2.2]
  rw [Addr.add_lit, Nat.zero_add, hK.cell j]
  match j, hj with
  | 0, hj => exact hj
  | 1, hj => exact hj
  | 2, hj => exact hj
  | 3, hj => exact hj
theorem one_fd (f : Fd) : ∀ u ∈ fdV f, u.oneCell' = true := by
  intro u hu
  simp only [fdV, List.mem_cons, List.not_mem_nil, or_false] at hu
  rcases hu with rfl | rfl | rfl | rfl <;> rfl
/-- parts laid flat in block r: how many, the places, the folds -/
def Flat (w : World) (r B n : Nat) (ps : List Int) (fs : List Fd) : Prop :=
  ∃ Ap cp Vf, Blk w r 68 #[.int .i64 n, .slice Ap ps.length cp, Vf] ∧ Own w B (.slice Ap ps.length cp) ps ∧ OwnFr w B Vf fs.length (fdL fs) ∧ B ≤ r
theorem Flat.below {w w' : World} {r B n : Nat} {ps : List Int} {fs : List Fd} (h : Flat w r B n ps fs) (hb : Below w.heap.size w w') : Flat w' r B n ps fs := by
  obtain ⟨Ap, cp, Vf, h1, h2, h3, h4⟩ := h
  have kp : ∀ {e : TypeId} {z m : Nat} {v : Value} {xs : List Value}, w.ownsRow B e z v m xs → w'.ownsRow B e z v m xs := fun hh => hh.kept (row := none) ⟨hb.os, hb.tape, hb.output, hb.size, fun i hi _ => hb.block i hi⟩ (by
    rename_i v _
    cases hv : v.ownBlock <;> simp)
  exact ⟨Ap, cp, Vf, h1.below hb h1.lt, kp h2, kp h3, h4⟩
set_option maxHeartbeats 2000000 in
set_option maxRecDepth 100000 in
theorem impl_addFold (r B n a b : Nat) (c : UInt8) (ps : List Int) (fs : List Fd) (p : Int) (w : World) (h : Flat w r B n ps fs) (hb : b < ps.length) (hp : ps[b] = p) (hl : ps.length ≤ 1000) (hf : fs.length ≤ 1000) (ha : a ≤ 1000) (hB : B ≤ w.heap.size) :
    Calls Try.prog 50 #[ptr r, .int .i64 a, .int .i64 b, .int .u8 (c.toNat : Int)] w fun e w' => e = .returned (.tuple #[]) ∧ Flat w' r B n ps (fs ++ [(a, b, p, ((c.toNat : Int) == 86) == (a % 2 == 0))]) ∧ Below B w w' := by
  obtain ⟨Ap, cp, Vf, h1, h2, h3, h4⟩ := h
  have c1 : w.cell? ⟨r, 1, none⟩ = some (.slice Ap ps.length cp) := h1.cell 1
  have c2 : w.cell? ⟨r, 2, none⟩ = some Vf := h1.cell 2
  have f2 := h1.frozen 2
  obtain ⟨bp, op, rfl, hbp, hcp⟩ := (show Ints w Ap ps from by obtain ⟨_, _, e, hI, _, _⟩ := h2.form; cases e; exact hI) (by intro e; rw [e] at hb; simp at hb)
  have rp := hcp b p (by rw [List.getElem?_eq_getElem hb, hp])
  have hrl := h1.lt
  have b1 : (b : Int) < (ps.length : Int) := by omega
  have b0 : (0 : Int) ≤ (b : Int) := by omega
  obtain ⟨m1, m2⟩ := mod2z a
  obtain ⟨q, hq⟩ : ∃ q, q = a % 2 := ⟨_, rfl⟩
  rw [← hq] at m1 m2
  obtain ⟨ob, hob⟩ : ∃ ob : Bool, ((q : Int) == 0) = ob := ⟨_, rfl⟩
  obtain ⟨cb, hcb⟩ : ∃ cb : Bool, ((c.toNat : Int) == 86) = cb := ⟨_, rfl⟩
  have hfin : (((c.toNat : Int) == 86) == (a % 2 == 0)) = (cb == ob) := by
    rw [hcb, ← hob, ← hq]
    congr 1
    rw [Bool.eq_iff_iff]
    simp
  have hne1 : Vf.ownBlock ≠ some r := own_blk_ne h3 h1 (by decide)
  have hne2 : Vf.ownBlock ≠ some bp := by
    rcases own_ne h3 h2 (by decide) with e | e
    · rw [e]; simp
    · exact e
  have HFin := Lib.hid hfin
  have H3 := Lib.hid h3
  have H2 := Lib.hid h2
  have H1 := Lib.hid h1
  have HS : Hid (∀ W : World, Below w.heap.size w W → W.cell? ⟨r, 1, none⟩ = some (.slice (some ⟨bp, op, none⟩) ps.length cp) ∧ W.cell? ⟨bp, op + b, none⟩ = some (.int .i64 p) ∧ W.cell? ⟨r, 2, none⟩ = some Vf ∧ W.frozen? ⟨r, 2, none⟩ = false) :=
    fun W hb => ⟨(hb.cell (p := ⟨r, 1, none⟩) hrl).trans c1, (hb.cell (p := ⟨bp, op + b, none⟩) hbp).trans rp, (hb.cell (p := ⟨r, 2, none⟩) hrl).trans c2, (h1.below hb hrl).frozen 2⟩
  clear hfin hq hcp h3 h2 h1 c1 c2 f2 rp
  go_enter Try.func50, Try.ntmps50
  go_wp2_with fail
  have c1 := (HS.out w (Below.refl _ _)).1
  have rp := (HS.out w (Below.refl _ _)).2.1
  have c2 := (HS.out w (Below.refl _ _)).2.2.1
  have f2 := (HS.out w (Below.refl _ _)).2.2.2
  have HZ := Lib.hid hrl
  go_region_law
    (first | (refine step_appFd (by rfl) _ _ (by rfl) B Vf fs.length (fdL fs) _ 1 _ (fdV (a, b, p, cb == ob)) (by rfl) (by rfl) (own_below2' H3.out ((below_drewN (Below.refl _ _) 1).alloc (Nat.le_refl _) _)) rfl (fun e => by cases e) (news_fd _ _) (one_fd _) (Nat.le_trans hB (by simp)) (by omega) ?_; intro v2 w2 ho2 hg2 hb2 hm2 hr2; obtain ⟨g2, k2, hv2, _⟩ := World.ownsRow.form ho2 (by omega); subst hv2; have HKP : Hid (w2.cell? ⟨r, 1, none⟩ = some (.slice (some ⟨bp, op, none⟩) ps.length cp) ∧ w2.cell? ⟨bp, op + b, none⟩ = some (.int .i64 p) ∧ w2.cell? ⟨r, 2, none⟩ = some Vf ∧ w2.frozen? ⟨r, 2, none⟩ = false) := ⟨(hg2.cell_far ⟨r, 1, none⟩ (by simpa using Nat.lt_succ_of_lt hrl) (fun e => hne1 e.symm)).trans (HS.out _ ((below_drewN (Below.refl _ _) 1).alloc (Nat.le_refl _) _)).1, (hg2.cell_far ⟨bp, op + b, none⟩ (by simpa using Nat.lt_succ_of_lt hbp) (fun e => hne2 e.symm)).trans (HS.out _ ((below_drewN (Below.refl _ _) 1).alloc (Nat.le_refl _) _)).2.1, (hg2.cell_far ⟨r, 2, none⟩ (by simpa using Nat.lt_succ_of_lt hrl) (fun e => hne1 e.symm)).trans (HS.out _ ((below_drewN (Below.refl _ _) 1).alloc (Nat.le_refl _) _)).2.2.1, (((H1.out.drewN 1).alloc _).grown hg2 (fun e => hne1 e.symm)).frozen 2⟩; have c2' := HKP.out.2.2.1; have f2' := HKP.out.2.2.2))
  all_goals
    have hA := (below_drewN (Below.refl w.heap.size w) 1).alloc (Nat.le_refl _) (Obj.cells #[.int .i64 a, .int .i64 b, .int .i64 p, .bool (cb == ob)] 73)
    have hK2 := ((H1.out.drewN 1).alloc (Obj.cells #[.int .i64 a, .int .i64 b, .int .i64 p, .bool (cb == ob)] 73)).grown hg2 (fun e => hne1 e.symm)
    have hP2 := (own_below2' H2.out hA).kept hg2 (Or.inr (fun e => hne2 e.symm))
    have hne3 := own_blk_ne ho2 hK2 (by decide)
    have hne4 := own_blk_ne hP2 hK2 (by decide)
    have gS := grown_setC w2 r 2 (Value.slice (some ⟨g2, 0, none⟩) (fs.length + 1) k2)
    have hF3 := ho2.kept gS (Or.inr hne3)
    have hP3 := hP2.kept gS (Or.inr hne4)
    have hK3 := hK2.set_ 2 (Value.slice (some ⟨g2, 0, none⟩) (fs.length + 1) k2)
    have hB3 := ((hA.mono hB).trans hb2).trans (below_set w2 2 (Value.slice (some ⟨g2, 0, none⟩) (fs.length + 1) k2) h4)
    have hFs : fdL (fs ++ [(a, b, p, ((c.toNat : Int) == 86) == (a % 2 == 0))]) = fdL fs ++ fdV (a, b, p, cb == ob) := by rw [fdL_snoc, HFin.out]
    have HR : Hid (Flat (w2.setCell ⟨r, 2, none⟩ (Value.slice (some ⟨g2, 0, none⟩) (fs.length + 1) k2)) r B n ps (fs ++ [(a, b, p, ((c.toNat : Int) == 86) == (a % 2 == 0))])) :=
      ⟨some ⟨bp, op, none⟩, cp, Value.slice (some ⟨g2, 0, none⟩) (fs.length + 1) k2, hK3, hP3, by rw [hFs, List.length_append]; exact hF3, h4⟩
    have HB3 := Lib.hid hB3
    clear hA hK2 hP2 hne3 hne4 gS hF3 hP3 hK3 hB3 hFs ho2 hg2 hb2 hm2 hr2 HKP
    go_end0
    exact ⟨rfl, HR.out, HB3.out⟩
end Go.Proofs.Ytngpeehjjcgmmaa
