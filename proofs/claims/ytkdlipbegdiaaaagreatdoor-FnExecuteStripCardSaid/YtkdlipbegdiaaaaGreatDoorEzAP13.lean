/- The reference's VertexCrimps and VertexCrimp: as the program's. No condition but sizes. Append to rows of the reference's folds and to rows of rows of numbers. No condition but sizes. -/
import Derived.Test.YtkdlipbegdiaaaaGreatDoorEzAP6
import Derived.Test.YtkdlipbegdiaaaaGreatDoorEzAP7
namespace Go.Proofs.YtkdlipbegdiaaaaGreatDoor
open Go.RowKit
theorem angles_ext {xs ys : List Int} (h : xs.length = ys.length) (ha : ∀ k, k < xs.length → angleAt xs k = angleAt ys k) : xs = ys := by
  apply List.ext_getElem h
  intro k h1 h2
  have := ha k h1
  unfold angleAt at this
  simpa [List.getD_eq_getElem?_getD, h1, h2] using this
theorem bytes_ext {s t : ByteArray} (h : s.size = t.size) (ha : ∀ k, k < s.size → byteAt s k = byteAt t k) : s = t := by
  apply ByteArray.ext
  apply Array.ext'
  apply List.ext_getElem
  · simpa using h
  · intro k h1 h2
    have := ha k (by simpa using h1)
    unfold byteAt at this
    rw [List.getD_eq_getElem?_getD, List.getD_eq_getElem?_getD, List.getElem?_eq_getElem h1, List.getElem?_eq_getElem h2] at this
    exact UInt8.toNat_inj.1 this
theorem crimped_eq {xs : List Int} {s : ByteArray} {i : Nat} {xs' : List Int} {s' : ByteArray} (h : Crimped xs s i xs' s') : xs' = vcrX xs i ∧ s' = vcrF xs s i := by
  refine ⟨angles_ext ?_ fun k hk => ?_, bytes_ext ?_ fun k hk => ?_⟩
  · rw [h.len]; unfold vcrX; rw [angTo_len]
  · rw [h.len] at hk
    rw [h.angle k hk]
    unfold vcrX
    rw [angleAt_angTo _ hk]
  · rw [h.size]; unfold vcrF; simp [ByteArray.size, folTo_len]
  · rw [h.size] at hk
    rw [h.fold k hk]
    unfold vcrF
    exact (byteAt_folTo (fun k => byteAt s (sig xs.length i k)) hk (byteAt_lt _ _)).symm
set_option maxHeartbeats 800000 in
theorem spec_VertexCrimps (A : Option Addr) (cap : Nat) (xs : List Int) (s : ByteArray) (w : World) (h : Ints w A xs) (hl : xs.length ≤ maxLen) (hs : s.size ≤ maxLen) :
    Calls Tryz.prog 115 #[.slice A xs.length cap, .string s] w fun e w' => ∃ v, e = .returned v ∧ Own w' w.heap.size v (vcL xs s) ∧ Below w.heap.size w w' := by
  cases hv : avB xs with
  | false =>
    have HV := Lib.hid hv; clear hv
    go_enter Tryz.func115, Tryz.ntmps115
    go_wp2_with fail
    refine (spec_AnglesValid A cap xs w h hl).mono ?_
    rintro e w' ⟨rfl, rfl⟩
    rw [HV.out]
    go_wp2_with fail
    go_ret
    exact ⟨_, rfl, by unfold vcL; rw [HV.out]; exact own_empty w (Nat.le_refl _), (Below.refl _ _).alloc (Nat.le_refl _) _⟩
  | true =>
    obtain ⟨_, h2, h10, hx, _⟩ := avB_parts hv
    have HV := Lib.hid hv; clear hv
    clear hx
    cases hf : fvB s.data.toList xs.length with
    | false =>
      have HF := Lib.hid hf; clear hf
      go_enter Tryz.func115, Tryz.ntmps115
      go_wp2_with fail
      refine (spec_AnglesValid A cap xs w h hl).mono ?_
      rintro e w' ⟨rfl, rfl⟩
      rw [HV.out]
      go_wp2_with fail
      refine (spec_FoldsValid s xs.length w hs).mono ?_
      rintro e w' ⟨rfl, rfl⟩
      rw [HF.out]
      go_wp2_with fail
      go_ret
      exact ⟨_, rfl, by unfold vcL; rw [HV.out, HF.out]; exact own_empty w (Nat.le_refl _), (Below.refl _ _).alloc (Nat.le_refl _) _⟩
    | true =>
      have hsz := fvB_size hf
      have HF := Lib.hid hf; clear hf
      have HS := Lib.hid hsz; clear hsz
      go_enter Tryz.func115, Tryz.ntmps115
      go_wp2_with fail
      refine (spec_AnglesValid A cap xs w h hl).mono ?_
      rintro e w' ⟨rfl, rfl⟩
      rw [HV.out]
      go_wp2_with fail
      refine (spec_FoldsValid s xs.length w hs).mono ?_
      rintro e w' ⟨rfl, rfl⟩
      rw [HF.out]
      go_wp2_with fail
      refine (spec_l1Crimps A cap xs s w h (by omega) HS.out).mono ?_
      rintro e w2 ⟨v, rfl, hown, hb2⟩
      go_wp2_with fail
      go_ret
      refine ⟨_, rfl, ?_, hb2⟩
      unfold vcL
      rw [HV.out, HF.out]
      exact hown
set_option maxHeartbeats 2000000 in
theorem spec_VertexCrimp (A : Option Addr) (cap : Nat) (xs : List Int) (s : ByteArray) (i : Int) (w : World) (h : Ints w A xs) (hl : xs.length ≤ maxLen) (hs : s.size ≤ maxLen) (hcap : xs.length ≤ cap) (hcm : cap ≤ maxLen) :
    Calls Tryz.prog 87 #[.slice A xs.length cap, .string s, .int .i64 i] w fun e w' => ∃ v, e = .returned (.tuple #[v, .string (vcS xs s i), .bool (vcB xs s i)]) ∧ Own w' w.heap.size v (vcY xs s i) ∧ Below w.heap.size w w' := by
  go_enter Tryz.func87, Tryz.ntmps87
  go_wp2_with fail
  refine (spec_VertexCrimps A cap xs s w h hl hs).mono ?_
  rintro e w1 ⟨v, rfl, hown, hb1⟩
  obtain ⟨A1, c1, rfl, hI1, hc1, hm1⟩ := hown.form
  have hlL : (vcL xs s).length ≤ maxLen := Nat.le_trans hc1 hm1
  unfold maxLen at hlL
  have hI := h.below hb1
  clear hown
  go_wp2_with fail
  go_loopg [10] ((vcL xs s).length + 1) (fun g s10 wr => w1 = wr ∧ ∃ k, k ≤ (vcL xs s).length ∧ s10 = .int .i64 k ∧ (vcL xs s).length - k < g ∧ Hid ((i ∈ vcL xs s) = (i ∈ (vcL xs s).drop k)))
  case atStart => exact ⟨rfl, 0, Nat.zero_le _, rfl, by omega, rfl⟩
  case round =>
    obtain ⟨rfl, k, hk, rfl, hg, H⟩ := hrel
    cases gk with
    | zero => omega
    | succ g =>
    by_cases hlt : k < (vcL xs s).length
    · obtain ⟨b, off, y, rfl, hb, HY, hc, hm⟩ := hI1.at_ hlt
      by_cases q : y = i
      · subst q
        obtain ⟨va, vf, v0, vn, v4, val⟩ := vcL_mem hm
        obtain ⟨_, h2, h10, hx, _⟩ := avB_parts va
        have hsz := fvB_size vf
        have hB : vcB xs s y = true := by unfold vcB; rw [decide_eq_true hm]
        have HB := Lib.hid hB
        have HX := Lib.hid hx
        have HS := Lib.hid hsz
        obtain ⟨j, rfl⟩ := Int.eq_ofNat_of_zero_le v0
        rw [Int.toNat_natCast] at vn
        have d1 : (((j : Int)) == ((j : Int))) = true := by simp
        obtain ⟨bb, off', _, rfl, _, _, _, _⟩ := hI.at_ (k := 0) (by omega)
        clear va vf v0 val hm hB hx hsz
        go_wp2_with fail
        refine (spec_l1Crimp_n bb off' cap xs.length xs s j w1 hI (Lib.hid rfl) v4 (by omega) hcap hcm HS vn (Lib.hid fun k hk => by have := HX.out _ (angleAt_mem hk); omega)).mono ?_
        rintro e w2 ⟨v, xs', s', rfl, hown2, hcr, hb2⟩
        obtain ⟨rfl, rfl⟩ := crimped_eq hcr
        have hb2' := below_from hb1 hb2 hb1.size
        have hw1 := hb1.size
        clear hcr
        go_wp2_with fail
        go_ret3
        refine ⟨v, ?_, ?_, hb2'⟩
        · unfold vcS
          rw [if_pos HB.out, HB.out]
          rfl
        · unfold vcY
          rw [if_pos HB.out]
          exact own_lower hown2 (by omega)
      · have d1 : (y == i) = false := by rw [beq_eq_false_iff_ne]; exact q
        have HN := Lib.hid (mem_drop_step HY.out q)
        clear q hm
        go_wp2_with fail
        go_roundg g
        case measure => omega
        case rel => exact ⟨rfl, k + 1, by omega, by go_num, by omega, H.out.trans HN.out⟩
    · obtain rfl : k = (vcL xs s).length := by omega
      have hB : vcB xs s i = false := by
        unfold vcB
        rw [decide_eq_false]
        rw [H.out, List.drop_length]
        simp
      have HB := Lib.hid hB
      clear hB
      have hw1 := hb1.size
      go_wp2_with fail
      go_ret3
      refine ⟨.slice (some ⟨w1.heap.size, 0, none⟩) 0 0, ?_, ?_, hb1.alloc hw1 _⟩
      · unfold vcS
        rw [HB.out]
        rfl
      · unfold vcY
        rw [HB.out]
        exact own_empty w1 hw1
end Go.Proofs.YtkdlipbegdiaaaaGreatDoor
namespace Go.Proofs.YtkdlipbegdiaaaaGreatDoor
open Go.RowKit
theorem Tryz.infoLf : (Tryz.prog.info? 90).map (fun i => (i.zero, i.size, i.bytes)) = some (some (.agg #[.int .i64 0, .int .i64 0, .int .i64 0, .int .u8 0]), 4, 32) := by kernel_rfl
/-- a row of the call's own -/
abbrev OwnL (w : World) (B : Nat) (v : Value) (n : Nat) (L : List Value) : Prop := w.ownsRow B 90 4 v n L
set_option maxRecDepth 100000 in
theorem run_appL (W : World) (B : Nat) (ty : TypeId) (v : Value) (n : Nat) (L : List Value) (A : Option Addr) (m c : Nat) (news : List Value) (hown : OwnL W B v n L) (hl : news.length = m * 4)
    (hA : A = none → m = 0) (hnews : ∀ a, A = some a → ∀ j u, news[j]? = some u → W.cell? (a.add j) = some u) (h1 : ∀ u ∈ news, u.oneCell' = true) (hB : B ≤ W.heap.size) (hn : n + m ≤ 1000000000000) :
    ∃ v' w', (Builtin.append_ #[87, 87] ty #[v, .slice A m c]).run Tryz.prog W = .ok v' w' ∧ OwnL w' B v' (n + m) (L ++ news) ∧ W.grownBy w' v.ownBlock ∧ Below B W w' ∧ MovedX W v v' ∧
      (∀ g cap, v = .slice (some ⟨g, 0, none⟩) n cap → n + m ≤ cap → v' = .slice (some ⟨g, 0, none⟩) (n + m) cap) := by
  obtain ⟨i0, hi, hz0, hz1, hz2⟩ := info_parts Tryz.infoLf
  cases A with
  | none =>
    have hm := hA rfl
    subst hm
    have hnil : news = [] := List.eq_nil_of_length_eq_zero (by omega)
    subst hnil
    refine ⟨v, W, run_app_nil W B _ ty _ i0 4 Tryz.underlying87 hi v _ _ hown c, by simpa using hown, World.grownBy.refl W _, Below.refl _ _, Or.inl rfl, fun g cap e _ => by simpa using e⟩
  | some ad =>
    have hnews' := hnews ad rfl
    obtain ⟨v', w', hrun, h2, h3, _⟩ := run_append_own (P := Tryz.prog) W B 87 ty 90 i0 (.agg #[.int .i64 0, .int .i64 0, .int .i64 0, .int .u8 0]) 4 32 Tryz.underlying87 hi hz0 hz1 hz2 rfl (by decide) v _ _ hown ad m c news hl hnews' h1 (by unfold maxLen; omega) (by omega) hB
    have hroom : ∀ g cap, v = .slice (some ⟨g, 0, none⟩) n cap → n + m ≤ cap → v' = .slice (some ⟨g, 0, none⟩) (n + m) cap := by
      intro g cap hv hr
      rcases hown.2 with ⟨e, _⟩ | ⟨g', cap', cur, e, hb, hg, hnc, hcm, hcs, htake⟩
      · rw [hv] at e; cases e
      · rw [hv] at e
        injection e with e1 e2 e3
        injection e1 with e1
        injection e1 with e1
        subst e1 e3
        subst hv
        have hcl : ∀ j, j < news.length → n * 4 + j < cur.size := by intro j hj; omega
        have hrun2 := run_append_room_cells (P := Tryz.prog) W 87 ty 90 i0 Tryz.underlying87 hi g 0 n cap ad m c news (by rw [hz1]; exact hl) hnews' h1 hr
          (by intro j hj
              rw [hz1, cell_of_row W g _ cur 90 (0, 0) hg, Nat.zero_add, Array.getElem?_eq_getElem (hcl j hj)]; rfl) (by intro j _; simp [World.frozen?, hg])
        rw [hrun2] at hrun
        exact ((Result.ok.injEq _ _ _ _ ▸ hrun).1).symm
    refine ⟨v', w', hrun, h2, h3, (Below.refl _ _).grown h3 hB fun k hk => (hown.lt k hk).1, ?_, hroom⟩
    rcases hown.2 with ⟨e, h0⟩ | ⟨g, cap, cur, e, hb, hg, hnc, hcm, hcs, htake⟩
    · right
      have hx0 : L = [] := List.eq_nil_of_length_eq_zero (by rw [hown.1, h0])
      subst e h0 hx0
      obtain ⟨v2, w2, hrun2, h22, _, _⟩ := run_append_own (P := Tryz.prog) W W.heap.size 87 ty 90 i0 (.agg #[.int .i64 0, .int .i64 0, .int .i64 0, .int .u8 0]) 4 32 Tryz.underlying87 hi hz0 hz1 hz2 rfl (by decide) (.slice none 0 0) 0 [] ⟨rfl, Or.inl ⟨rfl, rfl⟩⟩ ad m c news hl hnews' h1 (by unfold maxLen; omega) (by omega) (Nat.le_refl _)
      rw [hrun2] at hrun
      injection hrun with e1 e2
      subst e1 e2
      exact fun g hg => (h22.lt g hg).1
    · by_cases hr : n + m ≤ cap
      · left
        rw [hroom g cap e hr, e]; rfl
      · right
        subst e
        obtain ⟨v2, w2, hrun2, hown2, _⟩ := run_append_arg_grows (P := Tryz.prog) W 87 ty 90 i0 (.agg #[.int .i64 0, .int .i64 0, .int .i64 0, .int .u8 0]) 4 32 Tryz.underlying87 hi hz0 hz1 hz2 rfl (by decide) ⟨g, 0, none⟩ n cap L hown.1
          (fun j u hj => hown.cells (g := g) rfl j u hj) ad m c news hl hnews' (by omega) (by unfold maxLen; omega) (by omega)
        rw [hrun2] at hrun
        injection hrun with e1 e2
        subst e1 e2
        exact fun q hq => (hown2.lt q hq).1
theorem wp_appL {o : Oper} {a : Act} {W : World} {K : Act → World → Prop} {Q : Exit → Act → World → Prop} (s x : Operand)
    (ho : o.op = .call { callee := .builtin .append, args := #[s, x], argTypes := #[87, 87] })
    (B : Nat) (v : Value) (n : Nat) (L : List Value) (A : Option Addr) (m c : Nat) (news : List Value) (hs : a.eval s = v) (hx : a.eval x = .slice A m c) (hown : OwnL W B v n L) (hl : news.length = m * 4)
    (hA : A = none → m = 0) (hnews : ∀ a, A = some a → ∀ j u, news[j]? = some u → W.cell? (a.add j) = some u) (h1 : ∀ u ∈ news, u.oneCell' = true) (hB : B ≤ W.heap.size) (hn : n + m ≤ 1000000000000)
    (h : ∀ v' w', OwnL w' B v' (n + m) (L ++ news) → W.grownBy w' v.ownBlock → Below B W w' → MovedX W v v' → (∀ g cap, v = .slice (some ⟨g, 0, none⟩) n cap → n + m ≤ cap → v' = .slice (some ⟨g, 0, none⟩) (n + m) cap) → K (a.put o.dst v') w') : o.wp Tryz.prog a W K Q := by
  obtain ⟨v', w', hrun, h2, h3, h4, h5, h6⟩ := run_appL W B o.type v n L A m c news hown hl hA hnews h1 hB hn
  unfold Oper.wp execOp
  simp only [ho, resolve, invoke, builtin, Sem.run_bind, Sem.run_pure, Result.andThen_ok, List.map_toArray, List.map_cons, List.map_nil, hs, hx, hrun]
  exact h v' w' h2 h3 h4 h5 h6
theorem step_appL {ops : Array Oper} {o : Oper} {a : Act} {W : World} {K : Act → World → Prop} {Q : Exit → Act → World → Prop} {E : Prop} (hgd : o.guard = none) (s x : Operand)
    (ho : o.op = .call { callee := .builtin .append, args := #[s, x], argTypes := #[87, 87] })
    (B : Nat) (v : Value) (n : Nat) (L : List Value) (A : Option Addr) (m c : Nat) (news : List Value) (hs : a.eval s = v) (hx : a.eval x = .slice A m c) (hown : OwnL W B v n L) (hl : news.length = m * 4)
    (hA : A = none → m = 0) (hnews : ∀ a, A = some a → ∀ j u, news[j]? = some u → W.cell? (a.add j) = some u) (h1 : ∀ u ∈ news, u.oneCell' = true) (hB : B ≤ W.heap.size) (hn : n + m ≤ 1000000000000)
    (h : ∀ v' w', OwnL w' B v' (n + m) (L ++ news) → W.grownBy w' v.ownBlock → Below B W w' → MovedX W v v' → (∀ g cap, v = .slice (some ⟨g, 0, none⟩) n cap → n + m ≤ cap → v' = .slice (some ⟨g, 0, none⟩) (n + m) cap) → K (a.put o.dst v') w') :
    if Region.wanted o (yielded ops a.tmps) = true then Oper.wp Tryz.prog o a W K Q else E := by
  have hw : Region.wanted o (yielded ops a.tmps) = true := by simp [Region.wanted, hgd]
  rw [if_pos hw]
  exact wp_appL s x ho B v n L A m c news hs hx hown hl hA hnews h1 hB hn h
theorem Tryz.infoWl : (Tryz.prog.info? 23).map (fun i => (i.zero, i.size, i.bytes)) = some (some (.slice none 0 0), 1, 24) := by kernel_rfl
/-- a row of the call's own -/
abbrev OwnW (w : World) (B : Nat) (v : Value) (n : Nat) (L : List Value) : Prop := w.ownsRow B 23 1 v n L
set_option maxRecDepth 100000 in
theorem run_appW (W : World) (B : Nat) (ty : TypeId) (v : Value) (n : Nat) (L : List Value) (A : Option Addr) (m c : Nat) (news : List Value) (hown : OwnW W B v n L) (hl : news.length = m * 1)
    (hA : A = none → m = 0) (hnews : ∀ a, A = some a → ∀ j u, news[j]? = some u → W.cell? (a.add j) = some u) (h1 : ∀ u ∈ news, u.oneCell' = true) (hB : B ≤ W.heap.size) (hn : n + m ≤ 1000000000000) :
    ∃ v' w', (Builtin.append_ #[41, 41] ty #[v, .slice A m c]).run Tryz.prog W = .ok v' w' ∧ OwnW w' B v' (n + m) (L ++ news) ∧ W.grownBy w' v.ownBlock ∧ Below B W w' ∧ MovedX W v v' ∧
      (∀ g cap, v = .slice (some ⟨g, 0, none⟩) n cap → n + m ≤ cap → v' = .slice (some ⟨g, 0, none⟩) (n + m) cap) := by
  obtain ⟨i0, hi, hz0, hz1, hz2⟩ := info_parts Tryz.infoWl
  cases A with
  | none =>
    have hm := hA rfl
    subst hm
    have hnil : news = [] := List.eq_nil_of_length_eq_zero (by omega)
    subst hnil
    refine ⟨v, W, run_app_nil W B _ ty _ i0 1 Tryz.underlying41 hi v _ _ hown c, by simpa using hown, World.grownBy.refl W _, Below.refl _ _, Or.inl rfl, fun g cap e _ => by simpa using e⟩
  | some ad =>
    have hnews' := hnews ad rfl
    obtain ⟨v', w', hrun, h2, h3, _⟩ := run_append_own (P := Tryz.prog) W B 41 ty 23 i0 (.slice none 0 0) 1 24 Tryz.underlying41 hi hz0 hz1 hz2 rfl (by decide) v _ _ hown ad m c news hl hnews' h1 (by unfold maxLen; omega) (by omega) hB
    have hroom : ∀ g cap, v = .slice (some ⟨g, 0, none⟩) n cap → n + m ≤ cap → v' = .slice (some ⟨g, 0, none⟩) (n + m) cap := by
      intro g cap hv hr
      rcases hown.2 with ⟨e, _⟩ | ⟨g', cap', cur, e, hb, hg, hnc, hcm, hcs, htake⟩
      · rw [hv] at e; cases e
      · rw [hv] at e
        injection e with e1 e2 e3
        injection e1 with e1
        injection e1 with e1
        subst e1 e3
        subst hv
        have hcl : ∀ j, j < news.length → n * 1 + j < cur.size := by intro j hj; omega
        have hrun2 := run_append_room_cells (P := Tryz.prog) W 41 ty 23 i0 Tryz.underlying41 hi g 0 n cap ad m c news (by rw [hz1]; exact hl) hnews' h1 hr
          (by intro j hj
              rw [hz1, cell_of_row W g _ cur 23 (0, 0) hg, Nat.zero_add, Array.getElem?_eq_getElem (hcl j hj)]; rfl) (by intro j _; simp [World.frozen?, hg])
        rw [hrun2] at hrun
        exact ((Result.ok.injEq _ _ _ _ ▸ hrun).1).symm
    refine ⟨v', w', hrun, h2, h3, (Below.refl _ _).grown h3 hB fun k hk => (hown.lt k hk).1, ?_, hroom⟩
    rcases hown.2 with ⟨e, h0⟩ | ⟨g, cap, cur, e, hb, hg, hnc, hcm, hcs, htake⟩
    · right
      have hx0 : L = [] := List.eq_nil_of_length_eq_zero (by rw [hown.1, h0])
      subst e h0 hx0
      obtain ⟨v2, w2, hrun2, h22, _, _⟩ := run_append_own (P := Tryz.prog) W W.heap.size 41 ty 23 i0 (.slice none 0 0) 1 24 Tryz.underlying41 hi hz0 hz1 hz2 rfl (by decide) (.slice none 0 0) 0 [] ⟨rfl, Or.inl ⟨rfl, rfl⟩⟩ ad m c news hl hnews' h1 (by unfold maxLen; omega) (by omega) (Nat.le_refl _)
      rw [hrun2] at hrun
      injection hrun with e1 e2
      subst e1 e2
      exact fun g hg => (h22.lt g hg).1
    · by_cases hr : n + m ≤ cap
      · left
        rw [hroom g cap e hr, e]; rfl
      · right
        subst e
        obtain ⟨v2, w2, hrun2, hown2, _⟩ := run_append_arg_grows (P := Tryz.prog) W 41 ty 23 i0 (.slice none 0 0) 1 24 Tryz.underlying41 hi hz0 hz1 hz2 rfl (by decide) ⟨g, 0, none⟩ n cap L hown.1
          (fun j u hj => hown.cells (g := g) rfl j u hj) ad m c news hl hnews' (by omega) (by unfold maxLen; omega) (by omega)
        rw [hrun2] at hrun
        injection hrun with e1 e2
        subst e1 e2
        exact fun q hq => (hown2.lt q hq).1
theorem wp_appW {o : Oper} {a : Act} {W : World} {K : Act → World → Prop} {Q : Exit → Act → World → Prop} (s x : Operand)
    (ho : o.op = .call { callee := .builtin .append, args := #[s, x], argTypes := #[41, 41] })
    (B : Nat) (v : Value) (n : Nat) (L : List Value) (A : Option Addr) (m c : Nat) (news : List Value) (hs : a.eval s = v) (hx : a.eval x = .slice A m c) (hown : OwnW W B v n L) (hl : news.length = m * 1)
    (hA : A = none → m = 0) (hnews : ∀ a, A = some a → ∀ j u, news[j]? = some u → W.cell? (a.add j) = some u) (h1 : ∀ u ∈ news, u.oneCell' = true) (hB : B ≤ W.heap.size) (hn : n + m ≤ 1000000000000)
    (h : ∀ v' w', OwnW w' B v' (n + m) (L ++ news) → W.grownBy w' v.ownBlock → Below B W w' → MovedX W v v' → (∀ g cap, v = .slice (some ⟨g, 0, none⟩) n cap → n + m ≤ cap → v' = .slice (some ⟨g, 0, none⟩) (n + m) cap) → K (a.put o.dst v') w') : o.wp Tryz.prog a W K Q := by
  obtain ⟨v', w', hrun, h2, h3, h4, h5, h6⟩ := run_appW W B o.type v n L A m c news hown hl hA hnews h1 hB hn
  unfold Oper.wp execOp
  simp only [ho, resolve, invoke, builtin, Sem.run_bind, Sem.run_pure, Result.andThen_ok, List.map_toArray, List.map_cons, List.map_nil, hs, hx, hrun]
  exact h v' w' h2 h3 h4 h5 h6
theorem wpList_appW {ops : Array Oper} {rest : List Oper} {o : Oper} {a : Act} {W : World} {Q : Exit → Act → World → Prop} (hgd : o.guard = none) (s x : Operand)
    (ho : o.op = .call { callee := .builtin .append, args := #[s, x], argTypes := #[41, 41] })
    (B : Nat) (v : Value) (n : Nat) (L : List Value) (A : Option Addr) (m c : Nat) (news : List Value) (hs : a.eval s = v) (hx : a.eval x = .slice A m c) (hown : OwnW W B v n L) (hl : news.length = m * 1)
    (hA : A = none → m = 0) (hnews : ∀ a, A = some a → ∀ j u, news[j]? = some u → W.cell? (a.add j) = some u) (h1 : ∀ u ∈ news, u.oneCell' = true) (hB : B ≤ W.heap.size) (hn : n + m ≤ 1000000000000)
    (h : ∀ v' w', OwnW w' B v' (n + m) (L ++ news) → W.grownBy w' v.ownBlock → Below B W w' → MovedX W v v' → (∀ g cap, v = .slice (some ⟨g, 0, none⟩) n cap → n + m ≤ cap → v' = .slice (some ⟨g, 0, none⟩) (n + m) cap) → wpList Tryz.prog ops Q rest (a.put o.dst v') w') : wpList Tryz.prog ops Q (o :: rest) a W :=
  wpList_plain hgd fun _ hK => wp_appW s x ho B v n L A m c news hs hx hown hl hA hnews h1 hB hn fun v' w' h2 h3 h4 h5 h6 => hK _ _ (h v' w' h2 h3 h4 h5 h6)
end Go.Proofs.YtkdlipbegdiaaaaGreatDoor
