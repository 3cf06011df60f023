/- PatternFirst, the program's and the reference's; the law's walk. No condition but sizes. A pattern's folds counted by its vertices. No program, no condition. Patterns with other numbers of creases: a vertex left out, two patterns joined. No program, no condition. -/
import Derived.Test.YtnccpifdajcejaaFnPatternInnerP46
import Derived.Test.YtnccpifdajcejaaFnPatternInnerP50
import Derived.Test.YtnccpifdajcejaaPat
namespace Go.Proofs.Ytnccpifdajcejaa
open Go.RowKit

/-- PatternFirst: the rank of the first text -/
def pfo (vs : List Vx) : Option Nat := if patB vs then fstP (rankB vs (ncr vs).toNat) 0 (2 ^ (ncr vs).toNat) else none
def pfT (vs : List Vx) : ByteArray := match pfo vs with | some k => txt (ncr vs).toNat k | none => ByteArray.empty

set_option maxHeartbeats 1000000 in
theorem impl_PatternFirst (A : Option Addr) (cap : Nat) (vs : List Vx) (w : World) (h : Verts w A vs) (hl : vs.length ≤ maxLen) (hcap : vs.length ≤ cap) (hcm : cap ≤ maxLen) :
    Calls Try.prog 33 #[.slice A vs.length cap] w fun e w' => e = .returned (.tuple #[.string (pfT vs), .bool (pfo vs).isSome]) ∧ Below w.heap.size w w' := by
  cases hp : patB vs with
  | false =>
    have hc : pcI vs = -1 := by unfold pcI; rw [hp]; rfl
    have hfin : pfo vs = none := by unfold pfo; rw [hp]; rfl
    have HC := Lib.hid hc
    have HF := Lib.hid hfin
    clear hp hc hfin
    go_enter Try.func33, Try.ntmps33
    go_wp2_with fail
    refine (impl_PatternCreases A cap vs w h hl).mono ?_
    rintro e w1 ⟨rfl, hb1⟩
    rw [HC.out]
    go_wp2_with fail
    go_ret2
    exact ⟨by unfold pfT; rw [HF.out]; rfl, hb1⟩
  | true =>
    obtain ⟨n, hn, hn10, hc⟩ := pat_n hp
    obtain ⟨P, hPe⟩ : ∃ P, P = 2 ^ n := ⟨_, rfl⟩
    have hP : P ≤ 1024 := hPe ▸ pow_le_1024 hn10
    have hwr : wrap64 (2 ^ n) = (P : Int) := wrap_pow hPe hP
    have hfin : pfo vs = fstP (rankB vs n) 0 (P - 0) := by unfold pfo; rw [hp, if_pos rfl, hn, hPe]; rfl
    have hpt : pfT vs = match pfo vs with | some k => txt n k | none => ByteArray.empty := by unfold pfT; rw [hn]; rfl
    have HPT := Lib.hid hpt
    clear hpt
    have hfold : ∀ (k : Nat) (W : World), Below w.heap.size w W → Calls Try.prog 34 #[.slice A vs.length cap, .string (txt n k)] W fun e w' => e = .returned (.bool (rankB vs n k)) ∧ Below W.heap.size W w' := fun k W hW => by
      rw [← pfB_txt hp hn k]; exact impl_PatternFolds A cap vs (txt n k) W (h.below hW) hl (by rw [txt_size]; unfold maxLen; omega) hcap hcm
    have HC := Lib.hid hc
    have HF := Lib.hid hfin
    have HFold := Lib.hid hfold
    clear hp hc hfin hfold hn hPe
    go_enter Try.func33, Try.ntmps33
    go_wp2_with fail
    refine (impl_PatternCreases A cap vs w h hl).mono ?_
    rintro e w1 ⟨rfl, hb1⟩
    rw [HC.out]
    go_wp2_with fail
    go_loopg [5, 6] (P + 1) (fun g s5 s6 wr => ∃ (k : Nat), s6 = s6 ∧ k ≤ P ∧ s5 = .int .i64 k ∧ Hid (pfo vs = fstP (rankB vs n) k (P - k)) ∧ P - k < g ∧ Below w.heap.size w wr)
    case atStart => exact ⟨0, rfl, Nat.zero_le _, rfl, HF, by omega, hb1⟩
    case round =>
      obtain ⟨k, _, hk, rfl, HCn, hg, hbel⟩ := hrel
      have hsz := hbel.size
      cases gk with
      | zero => omega
      | succ g =>
      by_cases hlt : k < P
      · go_wp2_with fail
        refine (impl_foldsOfNumber n k wr (by omega) (by omega)).mono ?_
        rintro e w1 ⟨rfl, hb1⟩
        have hbel1 := hbel.trans (hb1.mono hsz)
        have hsz1 := hbel1.size
        clear hb1
        go_wp2_with fail
        refine (HFold.out k w1 hbel1).mono ?_
        rintro e w2 ⟨rfl, hb2⟩
        have hbel2 := hbel1.trans (hb2.mono hsz1)
        cases hvf : rankB vs n k with
        | true =>
          have hc1 : pfo vs = some k := by rw [HCn.out, fstP_step _ k P hlt, hvf, if_pos rfl]
          have HC1 := Lib.hid hc1
          clear hvf hc1 hb2 hbel hbel1
          go_wp2_with fail
          go_ret2
          exact ⟨by rw [HPT.out, HC1.out]; rfl, hbel2⟩
        | false =>
          have hc1 : pfo vs = fstP (rankB vs n) (k + 1) (P - (k + 1)) := by rw [HCn.out, fstP_step _ k P hlt, hvf, if_neg (by decide)]
          have HC1 := Lib.hid hc1
          clear hvf hc1 hb2 hbel hbel1
          go_wp2_with fail
          go_roundg g
          case measure => omega
          case rel => exact ⟨k + 1, by trivial, by omega, by go_num, HC1, by omega, hbel2⟩
      · obtain rfl : k = P := by omega
        have hc1 : pfo vs = none := by rw [HCn.out, Nat.sub_self]; rfl
        have HC1 := Lib.hid hc1
        clear hc1
        go_wp2_with fail
        go_ret2
        exact ⟨by unfold pfT; rw [HC1.out]; rfl, hbel⟩
set_option maxHeartbeats 1000000 in
theorem spec_PatternFirst (A : Option Addr) (cap : Nat) (vs : List Vx) (w : World) (h : Verts w A vs) (hl : vs.length ≤ maxLen) :
    Calls Try.prog 36 #[.slice A vs.length cap] w fun e w' => e = .returned (.tuple #[.string (pfT vs), .bool (pfo vs).isSome]) ∧ Below w.heap.size w w' := by
  cases hp : patB vs with
  | false =>
    have hfin : pfo vs = none := by unfold pfo; rw [hp]; rfl
    have HF := Lib.hid hfin
    have HP := Lib.hid hp
    clear hp hfin
    go_enter Try.func36, Try.ntmps36
    go_wp2_with fail
    refine (spec_PatternValid A cap vs w h hl).mono ?_
    rintro e w1 ⟨rfl, hb1⟩
    rw [HP.out]
    go_wp2_with fail
    go_ret2
    exact ⟨by unfold pfT; rw [HF.out]; rfl, hb1⟩
  | true =>
    obtain ⟨n, hn, hn10, hc⟩ := pat_n hp
    obtain ⟨h1, h3, hall, _, _, _⟩ := patB_parts hp
    have hvx : ∀ v ∈ vs, v.2.length ≤ 1000000 ∧ ∀ x ∈ v.2, 0 ≤ x ∧ x ≤ 9 := fun v hv => by
      rw [List.all_eq_true] at hall
      have := vtxB_bd (hall v hv)
      exact ⟨by omega, this.2.2.2.2⟩
    have hcr : ∀ W : World, Below w.heap.size w W → Calls Try.prog 51 #[.slice A vs.length cap] W fun e w' => e = .returned (.int .i64 (n : Int)) ∧ W = w' := fun W hW => by
      rw [← hn]; exact spec_l6pCreases A cap vs W (h.below hW) (by omega) hvx
    obtain ⟨P, hPe⟩ : ∃ P, P = 2 ^ n := ⟨_, rfl⟩
    have hP : P ≤ 1024 := hPe ▸ pow_le_1024 hn10
    have hfin : pfo vs = fstP (rankB vs n) 0 (P - 0) := by unfold pfo; rw [hp, if_pos rfl, hn, hPe]; rfl
    have hpt : pfT vs = match pfo vs with | some k => txt n k | none => ByteArray.empty := by unfold pfT; rw [hn]; rfl
    have HPT := Lib.hid hpt
    clear hpt
    have hfold : ∀ (k : Nat) (W : World), Below w.heap.size w W → Calls Try.prog 59 #[.slice A vs.length cap, .string (txt n k)] W fun e w' => e = .returned (.bool (rankB vs n k)) ∧ Below W.heap.size W w' := fun k W hW =>
      spec_l6pFolds A cap vs (txt n k) W (h.below hW) (by omega) (pat_vok hp hn k) (by rw [txt_size]; omega)
    have HP := Lib.hid hp
    have HPe := Lib.hid hPe
    have HCR := Lib.hid hcr
    have HF := Lib.hid hfin
    have HFold := Lib.hid hfold
    clear hp hc hfin hfold hn hPe hcr hvx hall h1 h3
    go_enter Try.func36, Try.ntmps36
    go_wp2_with fail
    refine (spec_PatternValid A cap vs w h hl).mono ?_
    rintro e w1 ⟨rfl, hb1⟩
    rw [HP.out]
    go_wp2_with fail
    refine (HCR.out w1 hb1).mono ?_
    rintro e w' ⟨rfl, rfl⟩
    go_wp2_with fail
    go_loopg [5] (P + 1) (fun g s5 wr => ∃ (k : Nat), k ≤ P ∧ s5 = .int .i64 k ∧ Hid (pfo vs = fstP (rankB vs n) k (P - k)) ∧ P - k < g ∧ Below w.heap.size w wr)
    case atStart => exact ⟨0, Nat.zero_le _, rfl, HF, by omega, hb1⟩
    case round =>
      obtain ⟨k, hk, rfl, HCn, hg, hbel⟩ := hrel
      have hsz := hbel.size
      cases gk with
      | zero => omega
      | succ g =>
      go_wp2_with fail
      refine (spec_l1Power n wr (by omega)).mono ?_
      rintro e w1 ⟨rfl, rfl⟩
      rw [← HPe.out]
      by_cases hlt : k < P
      · go_wp2_with fail
        refine (spec_l1Text n k wr (by omega) (by omega)).mono ?_
        rintro e w1 ⟨rfl, rfl⟩
        go_wp2_with fail
        refine (HFold.out k wr hbel).mono ?_
        rintro e w2 ⟨rfl, hb2⟩
        have hbel2 := hbel.trans (hb2.mono hsz)
        cases hvf : rankB vs n k with
        | true =>
          have hc1 : pfo vs = some k := by rw [HCn.out, fstP_step _ k P hlt, hvf, if_pos rfl]
          have HC1 := Lib.hid hc1
          clear hvf hc1 hb2 hbel
          go_wp2_with fail
          refine (spec_l1Text n k w2 (by omega) (by omega)).mono ?_
          rintro e w1 ⟨rfl, rfl⟩
          go_wp2_with fail
          go_ret2
          exact ⟨by rw [HPT.out, HC1.out]; rfl, hbel2⟩
        | false =>
          have hc1 : pfo vs = fstP (rankB vs n) (k + 1) (P - (k + 1)) := by rw [HCn.out, fstP_step _ k P hlt, hvf, if_neg (by decide)]
          have HC1 := Lib.hid hc1
          clear hvf hc1 hb2 hbel
          go_wp2_with fail
          go_roundg g
          case measure => omega
          case rel => exact ⟨k + 1, by omega, by go_num, HC1, by omega, hbel2⟩
      · obtain rfl : k = P := by omega
        have hc1 : pfo vs = none := by rw [HCn.out, Nat.sub_self]; rfl
        have HC1 := Lib.hid hc1
        clear hc1
        go_wp2_with fail
        go_ret2
        exact ⟨by unfold pfT; rw [HC1.out]; rfl, hbel⟩
end Go.Proofs.Ytnccpifdajcejaa
namespace Go.Proofs.Ytnccpifdajcejaa

def vA (v : Vx) (s : Nat → UInt8) : Bool := vfB v.1 (bts (v.2.map fun c => s c.toNat))
def aA (vs : List Vx) (s : Nat → UInt8) : Bool := vs.all fun v => vA v s
def inV (v : Vx) (k : Nat) : Prop := ∃ c ∈ v.2, c.toNat = k
def inA (vs : List Vx) (k : Nat) : Prop := ∃ v ∈ vs, inV v k
theorem all_congr {α : Type} {vs : List α} {f g : α → Bool} (h : ∀ v ∈ vs, f v = g v) : vs.all f = vs.all g := by
  induction vs with
  | nil => rfl
  | cons v r ih => rw [List.all_cons, List.all_cons, h v (by simp), ih fun u hu => h u (by simp [hu])]
theorem vA_dep (v : Vx) : Dep (inV v) (vA v) := by
  intro s t h
  have e : (v.2.map fun c => s c.toNat) = v.2.map fun c => t c.toNat := List.map_congr_left fun c hc => h c.toNat ⟨c, hc, rfl⟩
  unfold vA
  rw [e]
theorem aA_dep (vs : List Vx) : Dep (inA vs) (aA vs) := by
  intro s t h
  exact all_congr fun v hv => vA_dep v s t fun k hk => h k ⟨v, hv, hk⟩
theorem vA_swap (v : Vx) (s : Nat → UInt8) : vA v (fun k => swB (s k)) = vA v s := by
  have e : (v.2.map fun c => swB (s c.toNat)) = (v.2.map fun c => s c.toNat).map swB := by rw [List.map_map]; rfl
  unfold vA
  rw [e, vf_swap]
theorem aA_swap (vs : List Vx) (s : Nat → UInt8) : aA vs (fun k => swB (s k)) = aA vs s := all_congr fun v _ => vA_swap v s
theorem pm_cnt {vs : List Vx} {n : Nat} (hp : patB vs = true) (hn : ncr vs = (n : Int)) : pmI vs = (cntF n (aA vs) : Int) := by
  obtain ⟨P, hP⟩ : ∃ P : List UInt8 → Bool, P = fun l => vs.all fun v => vfB v.1 (bts (v.2.map fun c => l.getD c.toNat 0)) := ⟨_, rfl⟩
  have e : ∀ m, cntP (rankB vs n) m = cntK n P m := by
    intro m
    induction m with
    | zero => rfl
    | succ m ih => rw [cntP, cntK, ih, hP]; rfl
  unfold pmI
  rw [hp, if_pos rfl, hn, Int.toNat_natCast, e, cntK_T, ← cntF_T]
  congr 1
  refine cntF_congr fun s => ?_
  rw [hP]
  refine all_congr fun v hv => ?_
  unfold vA
  congr 2
  refine List.map_congr_left fun c hc => ?_
  have := (pat_bd3 hp v hv).2.2 c hc
  have hc2 : c.toNat < n := by omega
  rw [List.getD_eq_getElem?_getD, List.getElem?_map, List.getElem?_range hc2]; rfl
/-- a vertex's folds -/
def vmN (v : Vx) : Nat := cntT v.2.length fun l => vfB v.1 (bts l)
theorem vmN_vm {v : Vx} (h : vtxB v = true) : vmI v.1 = (vmN v : Int) := by
  have hb := vtxB_bd h
  unfold vmI vmN
  rw [((acB_iff _).1 hb.1).1, if_pos rfl, cntV_T, hb.2.1]
/-- a vertex whose creases are different and below n -/
def VOk2 (n : Nat) (v : Vx) : Prop := v.2.length = v.1.length ∧ v.2.Nodup ∧ ∀ c ∈ v.2, 0 ≤ c ∧ c < (n : Int)
theorem toNat_nodup {cs : List Int} (hn : cs.Nodup) (h0 : ∀ c ∈ cs, 0 ≤ c) : (cs.map Int.toNat).Nodup := by
  rw [List.nodup_iff_pairwise_ne, List.pairwise_map]
  refine List.Pairwise.imp_of_mem (fun {a b} ha hb h => ?_) (List.nodup_iff_pairwise_ne.1 hn)
  have := h0 a ha
  have := h0 b hb
  omega
theorem vA_cnt {n : Nat} {v : Vx} (h : VOk2 n v) : cntF n (vA v) * 2 ^ v.2.length = 2 ^ n * vmN v := by
  have := cntF_pick (n := n) (toNat_nodup h.2.1 fun c hc => (h.2.2 c hc).1) (fun c hc => by obtain ⟨d, hd, rfl⟩ := List.mem_map.1 hc; have := h.2.2 d hd; omega) (fun l => vfB v.1 (bts l))
  rw [List.length_map] at this
  unfold vmN
  rw [← this]
  congr 1
  refine cntF_congr fun s => ?_
  unfold vA
  rw [List.map_map]; rfl
def prodN : List Vx → Nat
  | [] => 1
  | v :: r => vmN v * prodN r
theorem cnt_prod {n : Nat} {vs : List Vx} (hv : ∀ v ∈ vs, VOk2 n v) (hu : ∀ k : Int, useN vs k ≤ 1) : cntF n (aA vs) * 2 ^ sumA vs = 2 ^ n * prodN vs := by
  induction vs with
  | nil =>
    have := cntF_pick (n := n) (cs := []) List.nodup_nil (fun c hc => by cases hc) (fun _ => true)
    have e : cntT 0 (fun _ => true) = 1 := rfl
    rw [List.length_nil, e] at this
    exact this
  | cons v r ih =>
    have hI := cntF_indep (n := n) (vA_dep v) (aA_dep r) (by
      rintro k ⟨c, hc, rfl⟩ ⟨u, hu1, d, hd, e⟩
      have h1 := (hv v (by simp)).2.2 c hc
      have h2 := (hv u (by simp [hu1])).2.2 d hd
      have hcd : d = c := by omega
      subst hcd
      have h3 := hu d
      rw [useN, if_pos hc] at h3
      have h4 := useN_pos.2 ⟨u, hu1, hd⟩
      omega)
    have hV := vA_cnt (hv v (by simp))
    have hR := ih (fun u hu' => hv u (by simp [hu'])) (fun k => by have := hu k; rw [useN] at this; omega)
    rw [(hv v (by simp)).1] at hV
    have e : aA (v :: r) = fun s => vA v s && aA r s := rfl
    rw [e, sumA, prodN, Nat.pow_add]
    apply Nat.eq_of_mul_eq_mul_left (Nat.two_pow_pos n)
    rw [← Nat.mul_assoc, hI]
    calc cntF n (vA v) * cntF n (aA r) * (2 ^ v.1.length * 2 ^ sumA r) = (cntF n (vA v) * 2 ^ v.1.length) * (cntF n (aA r) * 2 ^ sumA r) := by simp only [Nat.mul_assoc, Nat.mul_comm, Nat.mul_left_comm]
      _ = _ := by rw [hV, hR]; simp only [Nat.mul_assoc, Nat.mul_comm, Nat.mul_left_comm]
def prodZ : List Vx → Int
  | [] => 1
  | v :: r => vmI v.1 * prodZ r
theorem prodZ_snoc (vs : List Vx) (v : Vx) : prodZ (vs ++ [v]) = prodZ vs * vmI v.1 := by
  induction vs with
  | nil => rw [List.nil_append, prodZ, prodZ, prodZ, Int.mul_one, Int.one_mul]
  | cons u r ih => rw [List.cons_append, prodZ, prodZ, ih, Int.mul_assoc]
theorem prodZ_N {vs : List Vx} (h : vs.all vtxB = true) : prodZ vs = (prodN vs : Int) := by
  induction vs with
  | nil => rfl
  | cons v r ih =>
    rw [List.all_cons, Bool.and_eq_true] at h
    rw [prodZ, prodN, ih h.2, vmN_vm h.1]; omega
theorem cntT_le (n : Nat) (P : List UInt8 → Bool) : cntT n P ≤ 2 ^ n := by
  induction n generalizing P with
  | zero => rw [cntT]; split <;> omega
  | succ n ih =>
    rw [cntT, Nat.pow_succ]
    have := ih (fun l => P (77 :: l))
    have := ih (fun l => P (86 :: l))
    omega
theorem vm_bd {v : Vx} (h : vtxB v = true) : 0 ≤ vmI v.1 ∧ vmI v.1 ≤ 1024 := by
  rw [vmN_vm h]
  have h1 := cntT_le v.2.length fun l => vfB v.1 (bts l)
  have h2 : 2 ^ v.2.length ≤ 1024 := pow_le_1024 (vtxB_bd h).2.2.1
  unfold vmN
  omega
theorem useN_le_in {vs : List Vx} {n : Nat} (hb : ∀ v ∈ vs, ∀ c ∈ v.2, 0 ≤ c ∧ c < (n : Int)) (h : ∀ k, k < n → useN vs (k : Int) ≤ 1) (k : Int) : useN vs k ≤ 1 := by
  rcases Nat.eq_zero_or_pos (useN vs k) with h0 | h0
  · omega
  · obtain ⟨v, hv, hk⟩ := useN_pos.1 h0
    have := hb v hv k hk
    obtain ⟨m, rfl⟩ : ∃ m : Nat, k = (m : Int) := ⟨k.toNat, by omega⟩
    exact h m (by omega)
theorem innerTo_nil {vs : List Vx} {n : Nat} (h : innerTo vs n = []) : ∀ k, k < n → useN vs (k : Int) ≠ 2 := by
  intro k hk h2
  have := innerTo_get hk h2
  rw [h] at this
  simp at this
/-- no inner crease: a pattern's folds are its vertices' folds together -/
theorem pm_prod {vs : List Vx} (hp : patB vs = true) (hi : innerL vs = []) : pmI vs = prodZ vs := by
  obtain ⟨n, hn, hn10, _⟩ := pat_num hp
  obtain ⟨_, _, hall, huse, _, _⟩ := patB_parts hp
  have hi2 : innerTo vs n = [] := by unfold innerL at hi; rw [hp, if_pos rfl, hn] at hi; exact hi
  have hs := pat_sum hp hn
  rw [hi2, List.length_nil, Nat.add_zero] at hs
  rw [hn, Int.toNat_natCast] at huse
  have hu := usesOk_iff.1 huse
  have hb := pat_bd3 hp
  rw [hn] at hb
  have h := cnt_prod (n := n) (vs := vs) hb (useN_le_in (fun v hv => (hb v hv).2.2) fun k hk => by have := hu k hk; have := innerTo_nil hi2 k hk; omega)
  rw [hs, Nat.mul_comm] at h
  rw [pm_cnt hp hn, prodZ_N hall, Nat.eq_of_mul_eq_mul_left (Nat.two_pow_pos n) h]
theorem cntF_even {m : Nat} {f : (Nat → UInt8) → Bool} (h : Dep (fun k => k < m + 1) f) (hs : ∀ s, f (fun k => swB (s k)) = f s) : cntF (m + 1) f % 2 = 0 := by
  have h2 : cntF m (fun s => f (upd s m 86)) = cntF m (fun s => f (upd s m 77)) := by
    rw [← cntF_swap (f := fun s => f (upd s m 77)) ((h.upd m 77).mono fun k hk => by have := hk.1; have := hk.2; omega)]
    refine cntF_congr fun s => ?_
    rw [← hs]
    congr 1
    rw [upd_swap]; rfl
  rw [cntF, h2]; omega
theorem pat_two {vs : List Vx} {n : Nat} (hp : patB vs = true) (hn : ncr vs = (n : Int)) : 2 ≤ n := by
  obtain ⟨p1, _, hall, _, _, _⟩ := patB_parts hp
  have hm := List.getElem_mem (l := vs) (n := 0) (by omega)
  have hb := vtxB_bd (List.all_eq_true.1 hall _ hm)
  have hd := pat_bd3 hp _ hm
  have ha := hd.2.2 _ (List.getElem_mem (n := 0) (by omega : 0 < vs[0].2.length))
  have hc := hd.2.2 _ (List.getElem_mem (n := 1) (by omega : 1 < vs[0].2.length))
  have hne := List.pairwise_iff_getElem.1 (List.nodup_iff_pairwise_ne.1 hd.2.1) 0 1 (by omega) (by omega) (by omega)
  omega
theorem aA_dep_n {vs : List Vx} {n : Nat} (hb : ∀ v ∈ vs, ∀ c ∈ v.2, 0 ≤ c ∧ c < (n : Int)) : ∀ k, inA vs k → k < n := by
  rintro k ⟨v, hv, c, hc, rfl⟩
  have := hb v hv c hc
  omega
theorem pm_even {vs : List Vx} (hp : patB vs = true) : pmI vs % 2 = 0 := by
  obtain ⟨n, hn, _, _⟩ := pat_num hp
  have h2 := pat_two hp hn
  obtain ⟨m, rfl⟩ : ∃ m, n = m + 1 := ⟨n - 1, by omega⟩
  have hb := pat_bd3 hp
  rw [hn] at hb
  have := cntF_even ((aA_dep vs).mono (aA_dep_n fun v hv => (hb v hv).2.2)) (aA_swap vs)
  rw [pm_cnt hp hn]; omega
theorem fstP_isSome (p : Nat → Bool) (k g : Nat) : (fstP p k g).isSome = true ↔ ∃ j, k ≤ j ∧ j < k + g ∧ p j = true := by
  induction g generalizing k with
  | zero =>
    rw [fstP]
    constructor
    · intro h; cases h
    · rintro ⟨j, h1, h2, _⟩; omega
  | succ g ih =>
    rw [fstP]
    by_cases hp : p k = true
    · rw [if_pos hp]
      exact ⟨fun _ => ⟨k, Nat.le_refl _, by omega, hp⟩, fun _ => rfl⟩
    · rw [if_neg hp, ih]
      constructor
      · rintro ⟨j, h1, h2, h3⟩; exact ⟨j, by omega, by omega, h3⟩
      · rintro ⟨j, h1, h2, h3⟩
        refine ⟨j, ?_, by omega, h3⟩
        rcases Nat.lt_or_ge k j with h | h
        · omega
        · exact absurd ((by omega : j = k) ▸ h3) hp
theorem cntP_pos (p : Nat → Bool) (m : Nat) : 0 < cntP p m ↔ ∃ j, j < m ∧ p j = true := by
  induction m with
  | zero => simp [cntP]
  | succ m ih =>
    rw [cntP]
    by_cases hp : p m = true
    · rw [if_pos hp]
      exact ⟨fun _ => ⟨m, by omega, hp⟩, fun _ => by omega⟩
    · rw [if_neg hp, Nat.add_zero, ih]
      constructor
      · rintro ⟨j, h1, h3⟩; exact ⟨j, by omega, h3⟩
      · rintro ⟨j, h1, h3⟩
        refine ⟨j, ?_, h3⟩
        rcases Nat.lt_or_ge j m with h | h
        · exact h
        · exact absurd ((by omega : j = m) ▸ h3) hp
theorem pfo_pos {vs : List Vx} (hp : patB vs = true) : (pfo vs).isSome = decide (0 < pmI vs) := by
  have : (pfo vs).isSome = true ↔ 0 < pmI vs := by
    unfold pfo pmI
    rw [hp, if_pos rfl, if_pos rfl, fstP_isSome]
    have := cntP_pos (rankB vs (ncr vs).toNat) (2 ^ (ncr vs).toNat)
    constructor
    · rintro ⟨j, _, h2, h3⟩
      have := this.2 ⟨j, by omega, h3⟩
      omega
    · intro h
      obtain ⟨j, h1, h2⟩ := this.1 (by omega)
      exact ⟨j, by omega, by omega, h2⟩
  rw [Bool.eq_iff_iff, this, decide_eq_true_iff]
end Go.Proofs.Ytnccpifdajcejaa
namespace Go.Proofs.Ytnccpifdajcejaa

/-- a vertex with other numbers -/
def renV (f : Nat → Int) (v : List Int × List Int) : List Int × List Int := (v.1, v.2.map fun c => f c.toNat)
theorem renV_congr {f g : Nat → Int} {v : List Int × List Int} (h : ∀ c ∈ v.2, f c.toNat = g c.toNat) : renV f v = renV g v := by
  unfold renV
  rw [List.map_congr_left h]
/-- of the first k creases those that are used -/
def numW (vs : List (List Int × List Int)) : Nat → Nat
  | 0 => 0
  | k + 1 => numW vs k + (if 0 < useN vs (k : Int) then 1 else 0)
theorem numW_le (vs : List (List Int × List Int)) (k : Nat) : numW vs k ≤ k := by
  induction k with
  | zero => simp [numW]
  | succ k ih => rw [numW]; split <;> omega
def withoutL (vs : List (List Int × List Int)) (k : Nat) : List (List Int × List Int) := (vs.eraseIdx k).map (renV fun c => (numW (vs.eraseIdx k) c : Int))
/-- the new numbers of the second pattern of two -/
def numJ (na i j : Int) (k : Nat) : Int := if (k : Int) = j then i else if (k : Int) < j then na + (k : Int) else na + (k : Int) - 1
def joinL (us vs : List (List Int × List Int)) (i j : Int) : List (List Int × List Int) := us ++ vs.map (renV (numJ (ncr us) i j))
/-- may two patterns be joined there -/
def joinB (us vs : List (List Int × List Int)) (i j : Int) : Bool := patB us && patB vs && decide (useN us i = 1) && decide (useN vs j = 1) && patB (joinL us vs i j)
def withoutB (vs : List (List Int × List Int)) (k : Int) : Bool := patB vs && decide (0 ≤ k) && decide (k < vs.length) && decide (vs.length ≠ 1)

theorem useN_erase {vs : List (List Int × List Int)} {k : Nat} (h : k < vs.length) (c : Int) : useN vs c = useN (vs.eraseIdx k) c + (if c ∈ vs[k].2 then 1 else 0) := by
  induction vs generalizing k with
  | nil => simp at h
  | cons v r ih =>
    cases k with
    | zero => simp [useN]; omega
    | succ k =>
      have hk : k < r.length := by simpa using h
      rw [List.eraseIdx_cons_succ, useN, useN, ih hk]
      simp only [List.getElem_cons_succ]
      omega
theorem useN_out {vs : List (List Int × List Int)} {c : Int} (h : c < 0 ∨ ncr vs ≤ c) (hv : ∀ v ∈ vs, ∀ x ∈ v.2, 0 ≤ x) : useN vs c = 0 := by
  rcases Nat.eq_zero_or_pos (useN vs c) with h0 | h0
  · exact h0
  · exfalso
    obtain ⟨v, hm, hc⟩ := useN_pos.1 h0
    have h1 := hv v hm c hc
    have h2 := (ncGo_le 0 vs).2 v hm c hc
    unfold ncr at h
    omega
theorem renV_id {v : List Int × List Int} (h : ∀ c ∈ v.2, 0 ≤ c) : renV (fun c => (c : Int)) v = v := by
  obtain ⟨x, y⟩ := v
  unfold renV
  congr 1
  have : y.map (fun c => ((c.toNat : Nat) : Int)) = y.map id := List.map_congr_left fun c hc => by have := h c hc; show ((c.toNat : Nat) : Int) = c; omega
  rw [this, List.map_id]
/-- the counts, some vertex's creases taken off -/
def decL (vs : List (List Int × List Int)) (cs : List Int) (n : Nat) : List Int := (List.range n).map fun (k : Nat) => (useN vs (k : Int) : Int) - (if (k : Int) ∈ cs then 1 else 0)
theorem decL_len (vs : List (List Int × List Int)) (cs : List Int) (n : Nat) : (decL vs cs n).length = n := by simp [decL]
theorem decL_nil (vs : List (List Int × List Int)) (n : Nat) : decL vs [] n = usesL vs n := by simp [decL, usesL]
theorem decL_all {vs : List (List Int × List Int)} {k : Nat} (h : k < vs.length) (n : Nat) : decL vs vs[k].2 n = usesL (vs.eraseIdx k) n := by
  unfold decL usesL
  refine List.map_congr_left fun j _ => ?_
  have := useN_erase h (j : Int)
  split <;> simp_all
theorem decL_get {vs : List (List Int × List Int)} {cs : List Int} {n m : Nat} (hm : m < n) (h : (m : Int) ∉ cs) : (decL vs cs n)[m]? = some (useN vs (m : Int) : Int) := by
  simp [decL, hm, h]
theorem decL_set {vs : List (List Int × List Int)} {cs : List Int} {n m j : Nat} (hj : j < cs.length) (hc : cs[j] = (m : Int)) (hn : cs.Nodup) :
    (m : Int) ∉ cs.take j ∧ (decL vs (cs.take j) n).set m ((useN vs (m : Int) : Int) - 1) = decL vs (cs.take (j + 1)) n := by
  have hnot : (m : Int) ∉ cs.take j := by
    intro hin
    obtain ⟨i, hi, e⟩ := List.getElem_of_mem hin
    have hij : i < j := by simpa using (by rw [List.length_take] at hi; omega : i < j)
    rw [List.getElem_take] at e
    have hne := (List.nodup_iff_pairwise_ne.1 hn)
    have := List.pairwise_iff_getElem.1 hne i j (by omega) hj hij
    exact this (by rw [e, hc])
  refine ⟨hnot, ?_⟩
  apply List.ext_getElem?
  intro k
  rw [List.getElem?_set]
  by_cases hk : k < n
  · by_cases e : m = k
    · subst e
      rw [if_pos rfl, decL_len, if_pos hk]
      simp only [decL, List.getElem?_map, List.getElem?_range hk, Option.map_some]
      rw [if_pos]
      rw [List.take_succ_eq_append_getElem hj, hc]; simp
    · rw [if_neg e]
      simp only [decL, List.getElem?_map, List.getElem?_range hk, Option.map_some]
      congr 2
      rw [List.take_succ_eq_append_getElem hj, hc]
      have : ¬ (k : Int) = (m : Int) := by omega
      simp [this]
  · rw [List.getElem?_eq_none (by rw [decL_len]; omega), List.getElem?_eq_none (by rw [decL_len]; omega)]
    split
    · rw [decL_len, if_neg (by omega)]
    · rfl
/-- the new numbers of the first j creases -/
def numL (vs : List (List Int × List Int)) (n j : Nat) : List Int := (List.range n).map fun (k : Nat) => if k < j ∧ 0 < useN vs (k : Int) then (numW vs k : Int) else 0
theorem numL_len (vs : List (List Int × List Int)) (n j : Nat) : (numL vs n j).length = n := by simp [numL]
theorem numL_zero (vs : List (List Int × List Int)) (n : Nat) : numL vs n 0 = List.replicate n 0 := by
  apply List.ext_getElem?
  intro k
  by_cases hk : k < n <;> simp [numL, hk]
theorem numL_yes {vs : List (List Int × List Int)} {n j : Nat} (h : 0 < useN vs (j : Int)) : (numL vs n j).set j (numW vs j : Int) = numL vs n (j + 1) := by
  apply List.ext_getElem?
  intro k
  rw [List.getElem?_set]
  by_cases hk : k < n
  · by_cases e : j = k
    · subst e
      rw [if_pos rfl, numL_len, if_pos hk]
      simp [numL, hk, h]
    · rw [if_neg e]
      simp only [numL, List.getElem?_map, List.getElem?_range hk, Option.map_some]
      congr 1
      have : (k < j ∧ 0 < useN vs (k : Int)) ↔ (k < j + 1 ∧ 0 < useN vs (k : Int)) := by constructor <;> rintro ⟨h1, h2⟩ <;> exact ⟨by omega, h2⟩
      by_cases q : k < j ∧ 0 < useN vs (k : Int)
      · rw [if_pos q, if_pos (this.1 q)]
      · rw [if_neg q, if_neg (fun x => q (this.2 x))]
  · rw [List.getElem?_eq_none (by rw [numL_len]; omega), List.getElem?_eq_none (by rw [numL_len]; omega)]
    split
    · rw [numL_len, if_neg (by omega)]
    · rfl
theorem numL_no {vs : List (List Int × List Int)} {n j : Nat} (h : ¬ 0 < useN vs (j : Int)) : numL vs n j = numL vs n (j + 1) := by
  unfold numL
  refine List.map_congr_left fun k _ => ?_
  have : (k < j ∧ 0 < useN vs (k : Int)) ↔ (k < j + 1 ∧ 0 < useN vs (k : Int)) := by
    constructor
    · rintro ⟨h1, h2⟩; exact ⟨by omega, h2⟩
    · rintro ⟨h1, h2⟩
      refine ⟨?_, h2⟩
      rcases Nat.lt_or_ge k j with h3 | h3
      · exact h3
      · have : k = j := by omega
        subst this; exact absurd h2 h
  by_cases q : k < j ∧ 0 < useN vs (k : Int)
  · rw [if_pos q, if_pos (this.1 q)]
  · rw [if_neg q, if_neg (fun x => q (this.2 x))]
theorem numL_get {vs : List (List Int × List Int)} {n c : Nat} (hc : c < n) (h : 0 < useN vs (c : Int)) : (numL vs n n)[c]? = some (numW vs c : Int) := by simp [numL, hc, h]
/-- what is left of a pattern, or nothing -/
def woR (vs : List (List Int × List Int)) (k : Int) : List (List Int × List Int) := if withoutB vs k then withoutL vs k.toNat else []
theorem withoutL_len {vs : List (List Int × List Int)} {k : Nat} (h : k < vs.length) : (withoutL vs k).length = vs.length - 1 := by
  unfold withoutL; rw [List.length_map, List.length_eraseIdx, if_pos h]
/-- how many are done behind k rounds -/
def doneN (at_ k : Nat) : Nat := if at_ < k then k - 1 else k
theorem withoutL_get {vs : List (List Int × List Int)} {at_ k : Nat} (h : k < vs.length) (hne : k ≠ at_) : (withoutL vs at_)[doneN at_ k]? = some (renV (fun c => (numW (vs.eraseIdx at_) c : Int)) vs[k]) := by
  unfold withoutL doneN
  rw [List.getElem?_map, List.getElem?_eraseIdx]
  by_cases q : at_ < k
  · rw [if_pos q, if_neg (by omega), show k - 1 + 1 = k from by omega, List.getElem?_eq_getElem h]; rfl
  · rw [if_neg q, if_pos (by omega), List.getElem?_eq_getElem h]; rfl
theorem erase_mem {vs : List (List Int × List Int)} {at_ k : Nat} (h : k < vs.length) (hne : k ≠ at_) : vs[k] ∈ vs.eraseIdx at_ := by
  have : (vs.eraseIdx at_)[doneN at_ k]? = some vs[k] := by
    unfold doneN
    rw [List.getElem?_eraseIdx]
    by_cases q : at_ < k
    · rw [if_pos q, if_neg (by omega), show k - 1 + 1 = k from by omega, List.getElem?_eq_getElem h]
    · rw [if_neg q, if_pos (by omega), List.getElem?_eq_getElem h]
  exact List.mem_of_getElem? this
/-- the new numbers of all creases, used or not -/
def wNum (vs : List (List Int × List Int)) (j : Nat) : List Int := (List.range j).map fun (k : Nat) => (numW vs k : Int)
theorem wNum_len (vs : List (List Int × List Int)) (j : Nat) : (wNum vs j).length = j := by simp [wNum]
theorem wNum_succ (vs : List (List Int × List Int)) (j : Nat) : wNum vs (j + 1) = wNum vs j ++ [(numW vs j : Int)] := by simp [wNum, List.range_succ]
theorem wNum_get {vs : List (List Int × List Int)} {j c : Nat} (h : c < j) : (wNum vs j)[c]? = some (numW vs c : Int) := by simp [wNum, h]
/-- the first t of n numbers filled in -/
def fillTo (f : Nat → Int) (n t : Nat) : List Int := (List.range n).map fun (k : Nat) => if k < t then f k else 0
theorem fillTo_len (f : Nat → Int) (n t : Nat) : (fillTo f n t).length = n := by simp [fillTo]
theorem fillTo_zero (f : Nat → Int) (n : Nat) : fillTo f n 0 = List.replicate n 0 := by
  apply List.ext_getElem?
  intro k
  by_cases hk : k < n <;> simp [fillTo, hk]
theorem fillTo_set (f : Nat → Int) {n t : Nat} : (fillTo f n t).set t (f t) = fillTo f n (t + 1) := by
  apply List.ext_getElem?
  intro k
  rw [List.getElem?_set]
  by_cases hk : k < n
  · by_cases e : t = k
    · subst e
      rw [if_pos rfl, fillTo_len, if_pos hk]
      simp [fillTo, hk]
    · rw [if_neg e]
      simp only [fillTo, List.getElem?_map, List.getElem?_range hk, Option.map_some]
      congr 1
      by_cases q : k < t
      · rw [if_pos q, if_pos (by omega)]
      · rw [if_neg q, if_neg (by omega)]
  · rw [List.getElem?_eq_none (by rw [fillTo_len]; omega), List.getElem?_eq_none (by rw [fillTo_len]; omega)]
    split
    · rw [fillTo_len, if_neg (by omega)]
    · rfl
theorem fillTo_get {f : Nat → Int} {n c : Nat} (h : c < n) : (fillTo f n n)[c]? = some (f c) := by simp [fillTo, h]
/-- two patterns joined, or nothing -/
def jR (us vs : List (List Int × List Int)) (i j : Int) : List (List Int × List Int) := if joinB us vs i j then joinL us vs i j else []
theorem joinL_len (us vs : List (List Int × List Int)) (i j : Int) : (joinL us vs i j).length = us.length + vs.length := by simp [joinL]
theorem joinL_left {us vs : List (List Int × List Int)} {i j : Int} {k : Nat} (h : k < us.length) : (joinL us vs i j)[k]? = some us[k] := by
  unfold joinL; rw [List.getElem?_append_left h, List.getElem?_eq_getElem h]
theorem joinL_right {us vs : List (List Int × List Int)} {i j : Int} {k : Nat} (h : k < vs.length) : (joinL us vs i j)[us.length + k]? = some (renV (numJ (ncr us) i j) vs[k]) := by
  unfold joinL
  rw [List.getElem?_append_right (by omega), List.getElem?_map, show us.length + k - us.length = k from by omega, List.getElem?_eq_getElem h]; rfl
theorem joinB_no {us vs : List (List Int × List Int)} {i j : Int} (h : patB us = false ∨ patB vs = false ∨ useN us i ≠ 1 ∨ useN vs j ≠ 1) : joinB us vs i j = false := by
  unfold joinB
  rcases h with h | h | h | h
  · rw [h]; rfl
  · rw [h, Bool.and_false]; rfl
  · rw [decide_eq_false h]; simp
  · rw [decide_eq_false h]; simp
theorem joinB_yes {us vs : List (List Int × List Int)} {i j : Int} (h1 : patB us = true) (h2 : patB vs = true) (h3 : useN us i = 1) (h4 : useN vs j = 1) : joinB us vs i j = patB (joinL us vs i j) := by
  unfold joinB
  rw [h1, h2, decide_eq_true h3, decide_eq_true h4]; rfl
/-- the number that comes next -/
def nxJ (na j : Int) (k : Nat) : Int := if j < (k : Int) then na + (k : Int) - 1 else na + (k : Int)
theorem nxJ_at {na j : Int} {k : Nat} (h : (k : Int) = j) : nxJ na j (k + 1) = nxJ na j k := by unfold nxJ; split <;> split <;> omega
theorem nxJ_no {na i j : Int} {k : Nat} (h : ¬ (k : Int) = j) : nxJ na j (k + 1) = nxJ na j k + 1 ∧ numJ na i j k = nxJ na j k := by
  unfold nxJ numJ
  rw [if_neg h]
  constructor
  · split <;> split <;> omega
  · split <;> split <;> omega
theorem numJ_at {na i j : Int} {k : Nat} (h : (k : Int) = j) : numJ na i j k = i := by unfold numJ; rw [if_pos h]
/-- the new numbers of the second pattern's creases -/
def jNum (na i j : Int) (n : Nat) : List Int := (List.range n).map (numJ na i j)
theorem jNum_len (na i j : Int) (n : Nat) : (jNum na i j n).length = n := by simp [jNum]
theorem jNum_succ (na i j : Int) (n : Nat) : jNum na i j (n + 1) = jNum na i j n ++ [numJ na i j n] := by simp [jNum, List.range_succ]
theorem jNum_get {na i j : Int} {n c : Nat} (h : c < n) : (jNum na i j n)[c]? = some (numJ na i j c) := by simp [jNum, h]
end Go.Proofs.Ytnccpifdajcejaa
