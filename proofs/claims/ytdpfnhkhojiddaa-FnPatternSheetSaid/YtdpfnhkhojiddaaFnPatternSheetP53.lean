/- The reference's 'l1Crimp': the angles and folds behind a crimp. No condition but sizes. The reference's 'l1Folds', and whether angles or lengths fold by it: as the program's. No condition but sizes. The reference's text of a vertex; its l6pFolds. No condition but sizes. PatternFolds, the program's and the reference's. No condition but sizes. The law on the corners of a sheet as patterns: the walk of the law itself. No condition but sizes. -/
import Derived.Test.YtdpfnhkhojiddaaFnPatternSheetP52
import Derived.Test.YtdpfnhkhojiddaaApp
import Derived.Test.YtdpfnhkhojiddaaFnPatternSheetP51
import Derived.Test.YtdpfnhkhojiddaaLawCorner
namespace Go.Proofs.Ytdpfnhkhojiddaa
open Go.RowKit

theorem mod_prv {n i : Nat} (h : i < n) : (i + n - 1) % n = prv n i := by
  unfold prv
  split
  · next e => subst e; rw [show 0 + n - 1 = n - 1 by omega, Nat.mod_eq_of_lt (by omega)]
  · rw [show i + n - 1 = (i - 1) + n by omega, Nat.add_mod_right, Nat.mod_eq_of_lt (by omega)]

theorem angleAt_cell {w : World} {b off : Nat} {xs : List Int} {k : Nat} (h : Ints w (some ⟨b, off, none⟩) xs) (hk : k < xs.length) : w.cell? ⟨b, off + k, none⟩ = some (.int .i64 (angleAt xs k)) := by
  obtain ⟨b', off', x, e, hb, HX, hc, _⟩ := h.at_ hk
  have e2 : (⟨b, off, none⟩ : Addr) = ⟨b', off', none⟩ := Option.some.inj e
  rw [angle_of HX.out]
  have : b = b' := congrArg Addr.block e2
  have : off = off' := congrArg Addr.off e2
  subst_vars
  exact hc

/-- what a crimp at i leaves -/
structure Crimped (xs : List Int) (s : ByteArray) (i : Nat) (xs' : List Int) (s' : ByteArray) : Prop where
  len : xs'.length = xs.length - 2
  angle : ∀ k, k < xs.length - 2 → angleAt xs' k = crimpX xs.length (angleAt xs) i k
  size : s'.size = xs.length - 2
  fold : ∀ k, k < xs.length - 2 → byteAt s' k = byteAt s (sig xs.length i k)

theorem crimped_first {n : Nat} {xs : List Int} {s : ByteArray} {i : Nat} (h4 : 4 ≤ n) (hn : xs.length = n) (hs : s.size = n) (i0 : i = 0) :
    Crimped xs s i ([angleAt xs (prv n i) + angleAt xs (nxt n i) - angleAt xs i] ++ (xs.drop 2).take (n - 3)) (s.extract (n - 1) s.size ++ s.extract 2 (n - 1)) := by
  subst i0
  refine ⟨by rw [hn, List.length_append, List.length_take, List.length_drop, hn]; simp; omega, fun k hk => ?_, by rw [hn, ByteArray.size_append, ByteArray.size_extract, ByteArray.size_extract, hs]; omega, fun k hk => ?_⟩
  · rw [hn] at hk ⊢
    rw [angleAt_append]
    have l1 : ([angleAt xs (prv n 0) + angleAt xs (nxt n 0) - angleAt xs 0] : List Int).length = 1 := rfl
    rw [l1]
    unfold crimpX
    by_cases hk0 : k = 0
    · subst hk0
      rw [if_pos (by omega), angleAt_one, if_pos (by unfold sig prv; simp)]
      omega
    · rw [if_neg (by omega), angleAt_take _ _ _ (by omega), angleAt_drop, if_neg (by unfold sig prv; simp [hk0]; omega)]
      unfold sig
      rw [if_pos rfl, if_neg hk0]
      congr 1; omega
  · rw [hn] at hk ⊢
    rw [byteAt_append]
    have l1 : (s.extract (n - 1) s.size).size = 1 := by rw [ByteArray.size_extract, hs]; omega
    rw [l1]
    unfold sig
    rw [if_pos rfl]
    by_cases hk0 : k = 0
    · subst hk0
      rw [if_pos (by omega), byteAt_extract _ _ _ _ (by omega), if_pos rfl]; rfl
    · rw [if_neg (by omega), byteAt_extract _ _ _ _ (by omega), if_neg hk0]
      congr 1; omega
theorem crimped_last {n : Nat} {xs : List Int} {s : ByteArray} {i : Nat} (h4 : 4 ≤ n) (hn : xs.length = n) (hs : s.size = n) (i0 : ¬ i = 0) (i1 : i = n - 1) :
    Crimped xs s i ([angleAt xs (prv n i) + angleAt xs (nxt n i) - angleAt xs i] ++ (xs.drop 1).take (n - 3)) (s.extract (n - 2) (n - 1) ++ s.extract 1 (n - 2)) := by
  refine ⟨by rw [hn, List.length_append, List.length_take, List.length_drop, hn]; simp; omega, fun k hk => ?_, by rw [hn, ByteArray.size_append, ByteArray.size_extract, ByteArray.size_extract, hs]; omega, fun k hk => ?_⟩
  · rw [hn] at hk ⊢
    rw [angleAt_append]
    have l1 : ([angleAt xs (prv n i) + angleAt xs (nxt n i) - angleAt xs i] : List Int).length = 1 := rfl
    rw [l1]
    have hp : prv n i = n - 2 := by unfold prv; rw [if_neg i0]; omega
    have hs1 : sig n i k = if k = 0 then n - 2 else k := by unfold sig; rw [if_neg i0, if_pos i1]
    unfold crimpX
    rw [hs1]
    by_cases hk0 : k = 0
    · subst hk0
      rw [if_pos (by omega), angleAt_one, if_pos rfl, if_pos hp.symm]
      omega
    · rw [if_neg (by omega), angleAt_take _ _ _ (by omega), angleAt_drop, if_neg hk0, if_neg (by omega)]
      congr 1; omega
  · rw [hn] at hk ⊢
    rw [byteAt_append]
    have l1 : (s.extract (n - 2) (n - 1)).size = 1 := by rw [ByteArray.size_extract, hs]; omega
    rw [l1]
    unfold sig
    rw [if_neg i0, if_pos i1]
    by_cases hk0 : k = 0
    · subst hk0
      rw [if_pos (by omega), byteAt_extract _ _ _ _ (by omega), if_pos rfl]; rfl
    · rw [if_neg (by omega), byteAt_extract _ _ _ _ (by omega), if_neg hk0]
      congr 1; omega
theorem crimped_mid {n : Nat} {xs : List Int} {s : ByteArray} {i : Nat} (h4 : 4 ≤ n) (hn : xs.length = n) (hs : s.size = n) (hi : i < n) (i0 : ¬ i = 0) (i1 : ¬ i = n - 1) :
    Crimped xs s i (xs.take (i - 1) ++ [angleAt xs (prv n i) + angleAt xs (nxt n i) - angleAt xs i] ++ (xs.drop (i + 2)).take (n - (i + 2))) (s.extract 0 i ++ s.extract (i + 2) s.size) := by
  refine ⟨by simp [hn]; omega, fun k hk => ?_, by rw [hn, ByteArray.size_append, ByteArray.size_extract, ByteArray.size_extract, hs]; omega, fun k hk => ?_⟩
  · rw [hn] at hk ⊢
    rw [List.append_assoc, angleAt_append, angleAt_append]
    have l1 : ([angleAt xs (prv n i) + angleAt xs (nxt n i) - angleAt xs i] : List Int).length = 1 := rfl
    have l2 : (xs.take (i - 1)).length = i - 1 := by rw [List.length_take, hn]; omega
    rw [l1, l2]
    have hp : prv n i = i - 1 := by unfold prv; rw [if_neg i0]
    have hs1 : sig n i k = if k < i then k else k + 2 := by unfold sig; rw [if_neg i0, if_neg i1]
    unfold crimpX
    rw [hs1]
    by_cases a : k < i - 1
    · have a2 : k < i := by omega
      rw [if_pos a, angleAt_take _ _ _ a, if_pos a2, if_neg (by omega)]
    · rw [if_neg a]
      by_cases b : k = i - 1
      · have a2 : k < i := by omega
        rw [if_pos (by omega), if_pos a2, if_pos (by omega), b, Nat.sub_self, angleAt_one]
        omega
      · have a2 : ¬ k < i := by omega
        rw [if_neg (by omega), if_neg a2, if_neg (by omega), angleAt_take _ _ _ (by omega), angleAt_drop]
        congr 1; omega
  · rw [hn] at hk ⊢
    rw [byteAt_append]
    have l1 : (s.extract 0 i).size = i := by rw [ByteArray.size_extract, hs]; omega
    rw [l1]
    unfold sig
    rw [if_neg i0, if_neg i1]
    by_cases a : k < i
    · rw [if_pos a, if_pos a, byteAt_extract _ _ _ _ (by omega), Nat.zero_add]
    · rw [if_neg a, if_neg a, byteAt_extract _ _ _ _ (by omega)]
      congr 1; omega

end Go.Proofs.Ytdpfnhkhojiddaa
namespace Go.Proofs.Ytdpfnhkhojiddaa
open Go.RowKit

section
variable {n : Nat} {x x' : Nat → Int} {f f' : Nat → Nat}
theorem allowedB_congr (hx : ∀ k, k < n → x k = x' k) (hf : ∀ k, k < n → f k = f' k) {i : Nat} (hi : i < n) : allowedB n x f i = allowedB n x' f' i := by
  rw [Bool.eq_iff_iff, allowed_iff hi, allowed_iff hi, hf i hi, hf _ (nxt_lt hi), hx i hi]
  constructor
  · rintro ⟨a, b, c⟩; exact ⟨a, b, fun m hm => by rw [← hx m hm]; exact c m hm⟩
  · rintro ⟨a, b, c⟩; exact ⟨a, b, fun m hm => by rw [hx m hm]; exact c m hm⟩
theorem firstC_congr (hx : ∀ k, k < n → x k = x' k) (hf : ∀ k, k < n → f k = f' k) : firstC n x f = firstC n x' f' := by
  unfold firstC
  rw [List.filter_congr (fun i hi => allowedB_congr hx hf (List.mem_range.1 hi))]
theorem crimpX_congr (hx : ∀ k, k < n → x k = x' k) (hn : 4 ≤ n) {i : Nat} (hi : i < n) {k : Nat} (hk : k < n - 2) : crimpX n x i k = crimpX n x' i k := by
  unfold crimpX
  rw [hx _ (prv_lt hi), hx _ (nxt_lt hi), hx _ hi, hx _ (sig_lt hn hi hk).1]
end
theorem foldsN_congr (g : Nat) : ∀ {n : Nat} {x x' : Nat → Int} {f f' : Nat → Nat}, (∀ k, k < n → x k = x' k) → (∀ k, k < n → f k = f' k) → foldsN g n x f = foldsN g n x' f' := by
  induction g with
  | zero => intro n x x' f f' _ _; rfl
  | succ g ih =>
    intro n x x' f f' hx hf
    rw [foldsN, foldsN, firstC_congr hx hf]
    cases h : firstC n x' f' with
    | none =>
      dsimp only
      by_cases h2 : n = 2
      · subst h2
        rw [hx 0 (by omega), hx 1 (by omega), hf 0 (by omega), hf 1 (by omega)]
      · simp [h2]
    | some i =>
      have hh := crimps_some h
      exact ih (fun k hk => crimpX_congr hx hh.2.2 hh.2.1 hk) (fun k hk => hf _ (sig_lt hh.2.2 hh.2.1 hk).1)



end Go.Proofs.Ytdpfnhkhojiddaa
namespace Go.Proofs.Ytdpfnhkhojiddaa
open Go.RowKit

theorem picked_step {s : ByteArray} {cs : List Int} {k m : Nat} (h : k < cs.length) (hm : cs[k] = (m : Int)) (hs : m < s.size) : picked s (cs.take k) ++ s.extract m (m + 1) = picked s (cs.take (k + 1)) := by
  have e : s.extract m (m + 1) = ⟨[s[m]].toArray⟩ := by
    apply ByteArray.ext
    apply Array.ext'
    show (s.extract m (m + 1)).data.toList = [s[m]]
    rw [ByteArray.data_extract]
    simp
    have : s.data.toList.drop m = s[m] :: s.data.toList.drop (m + 1) := byte_drop hs
    rw [this]
    simp
  rw [e]
  unfold picked
  rw [pickL_take s cs h hm hs]
  exact ByteArray.mk_append_mk _ _

end Go.Proofs.Ytdpfnhkhojiddaa
namespace Go.Proofs.Ytdpfnhkhojiddaa
open Go.RowKit

/-- PatternFolds -/
def pfB (vs : List Vx) (s : ByteArray) : Bool := patB vs && (fvB s.data.toList (ncr vs) && vs.all (vfT s))
theorem fvB_neg (l : List UInt8) : fvB l (-1) = false := by
  unfold fvB
  have : decide ((l.length : Int) = -1) = false := by simp
  rw [this]; rfl
theorem pat_ok {vs : List Vx} {s : ByteArray} (hp : patB vs = true) (hf : fvB s.data.toList (ncr vs) = true) : s.size ≤ 10 ∧ ∀ v ∈ vs, VOk s v := by
  obtain ⟨_, _, hall, _, n0, n10⟩ := patB_parts hp
  obtain ⟨n, hn⟩ : ∃ n : Nat, ncr vs = (n : Int) := ⟨(ncr vs).toNat, by omega⟩
  have hsz := fvB_size (n := n) (by rw [← hn]; exact hf)
  refine ⟨by omega, fun v hv => ?_⟩
  rw [List.all_eq_true] at hall
  obtain ⟨_, h1, h2, _, h3⟩ := vtxB_bd (hall v hv)
  have hle := (ncGo_le 0 vs).2 v hv
  refine ⟨by omega, by omega, fun c hc => ⟨(h3 c hc).1, ?_⟩⟩
  have h4 := hle c hc
  have h5 : ncGo 0 vs = ncr vs := rfl
  omega
theorem all_cnt (t : Vx → Bool) (vs : List Vx) : ((cntX t vs : Int) == (vs.length : Int)) = vs.all t := by
  cases h : vs.all t with
  | true =>
    rw [List.all_eq_true] at h
    have : cntX t vs = vs.length := by unfold cntX; rw [List.filter_eq_self.2 h]
    rw [this]; simp
  | false =>
    rw [beq_eq_false_iff_ne]
    intro e
    have e2 : (vs.filter t).length = vs.length := by unfold cntX at e; omega
    have := (List.filter_eq_self (p := t) (l := vs)).1 ((List.filter_sublist).eq_of_length e2)
    rw [← List.all_eq_true] at this
    rw [this] at h; cases h

set_option maxHeartbeats 2000000 in
theorem impl_PatternFolds (A : Option Addr) (cap : Nat) (vs : List Vx) (s : ByteArray) (w : World) (h : Verts w A vs) (hl : vs.length ≤ maxLen) (hs : s.size ≤ maxLen) (hcap : vs.length ≤ cap) (hcm : cap ≤ maxLen) :
    Calls Try.prog 9 #[.slice A vs.length cap, .string s] w fun e w' => e = .returned (.bool (pfB vs s)) ∧ Below w.heap.size w w' := by
  obtain ⟨c, hc⟩ : ∃ c, c = pcI vs := ⟨_, rfl⟩
  obtain ⟨f, hf⟩ : ∃ f, f = fvB s.data.toList c := ⟨_, rfl⟩
  have HC := Lib.hid hc
  have HF := Lib.hid hf
  clear hc hf
  go_enter Try.func9, Try.ntmps9
  go_wp2_with fail
  refine (impl_PatternCreases A cap vs w h hl).mono ?_
  rintro e w1 ⟨rfl, hb1⟩
  rw [← HC.out]
  go_wp2_with fail
  refine (impl_FoldsValid s c w1 hs).mono ?_
  rintro e w' ⟨rfl, rfl⟩
  rw [← HF.out]
  cases f with
  | false =>
    have hfin : pfB vs s = false := by
      unfold pfB
      cases hp : patB vs with
      | false => rfl
      | true =>
        have h1 := HF.out
        rw [HC.out] at h1
        unfold pcI at h1
        rw [hp, if_pos rfl] at h1
        rw [← h1]; rfl
    have HFin := Lib.hid hfin
    clear hfin
    go_wp2_with fail
    go_ret
    exact ⟨ret_bool HFin.out.symm, hb1⟩
  | true =>
    have hp : patB vs = true := by
      cases hp : patB vs with
      | true => rfl
      | false =>
        have h1 := HF.out
        rw [HC.out] at h1
        unfold pcI at h1
        rw [hp] at h1
        have h2 : fvB s.data.toList (-1) = true := h1.symm
        rw [fvB_neg] at h2; cases h2
    have hfv : fvB s.data.toList (ncr vs) = true := by
      have h1 := HF.out
      rw [HC.out] at h1
      unfold pcI at h1
      rw [hp, if_pos rfl] at h1
      exact h1.symm
    obtain ⟨hs10, hok⟩ := pat_ok hp hfv
    obtain ⟨h1, h3, _⟩ := patB_parts hp
    have hfin : pfB vs s = vs.all (vfT s) := by unfold pfB; rw [hp, hfv]; rfl
    obtain ⟨us, v, hus⟩ : ∃ us v, vs = us ++ [v] := ⟨vs.dropLast, vs.getLast (by intro e; rw [e] at h1; simp at h1), (List.dropLast_concat_getLast _).symm⟩
    have hlen : vs.length = us.length + 1 := by rw [hus]; simp
    obtain ⟨a, ha⟩ : ∃ a, a = cntX (vfT s) vs := ⟨_, rfl⟩
    have hac := all_cnt (vfT s) vs
    rw [← ha] at hac
    have hpo : ∀ W : World, Below w.heap.size w W → Calls Try.prog 27 #[.slice A vs.length cap] W fun e w' => ∃ X, e = .returned X ∧ PatV w' vs X ∧ Below W.heap.size W w' := fun W hW => by
      have := impl_patternOf us.length A cap us v W rfl (by omega) (by rw [← hus]; exact h.below hW) (by omega) hcm
      rw [← hus, ← hlen] at this
      exact this
    have HPO := Lib.hid hpo
    have HFin := Lib.hid hfin
    have HA := Lib.hid ha
    have HAC := Lib.hid hac
    have HOK := Lib.hid hok
    clear hp hfv hok hfin hus hlen ha hac hpo HC HF
    go_wp2_with fail
    refine (HPO.out w1 hb1).mono ?_
    rintro e w2 ⟨X, rfl, hX, hb2⟩
    have b2 := below_from hb1 hb2 hb1.size
    have hcv := countF_any s vs X w2 hX (by omega) HOK.out (by omega)
    rw [← HA.out] at hcv
    have HCV := Lib.hid hcv
    clear hb1 hb2 hcv HPO
    rcases vertices_any hX (by omega) with ⟨hv1, B1, B2, k1, k2, d1, d2, rfl⟩ | ⟨Z, rfl, hZ⟩
    · clear hX
      go_wp2_with fail
      refine (HCV.out w2 (Below.refl _ _)).mono ?_
      rintro e w3 ⟨rfl, hb3⟩
      have b3 := below_from b2 hb3 b2.size
      clear b2 hb3
      rw [hv1] at HAC
      go_wp2_with fail
      refine (vertices_one B1 B2 k1 k2 d1 d2 w3).mono ?_
      rintro e w4 ⟨rfl, hb4⟩
      have b4 := below_from b3 hb4 b3.size
      clear b3 hb4
      go_wp2_with fail
      go_ret
      exact ⟨ret_bool (by rw [HFin.out, ← HAC.out]; rfl), b4⟩
    · have HZ := Lib.hid hZ
      clear hX hZ
      go_wp2_with fail
      refine (HCV.out w2 (Below.refl _ _)).mono ?_
      rintro e w3 ⟨rfl, hb3⟩
      have b3 := below_from b2 hb3 b2.size
      clear b2 hb3
      go_wp2_with fail
      refine (HZ.out w3).mono ?_
      rintro e w4 ⟨rfl, hb4⟩
      have b4 := below_from b3 hb4 b3.size
      clear b3 hb4
      go_wp2_with fail
      go_ret
      exact ⟨ret_bool (by rw [HFin.out, ← HAC.out]), b4⟩
end Go.Proofs.Ytdpfnhkhojiddaa
namespace Go.Proofs.Ytdpfnhkhojiddaa
open Go.RowKit

/-- a vertex of four right angles -/
def vx90 (cs : List Int) : Vx := ([90, 90, 90, 90], cs)
set_option maxRecDepth 100000 in
theorem three_pat {o : List UInt8} (h : threeB o = true) : pfB [vx90 [0, 1, 2, 3]] (btx o) = true := by
  unfold threeB at h
  simp only [Bool.and_eq_true, decide_eq_true_eq] at h
  obtain ⟨⟨h1, h2⟩, h3⟩ := h
  match o, h1, h2, h3 with
  | [a, b, c, d], _, h2, h3 =>
    simp only [List.all_cons, List.all_nil, Bool.and_true, Bool.and_eq_true, Bool.or_eq_true, decide_eq_true_eq] at h2
    obtain ⟨ha, hb, hc, hd⟩ := h2
    rcases ha with rfl | rfl <;> rcases hb with rfl | rfl <;> rcases hc with rfl | rfl <;> rcases hd with rfl | rfl <;>
      first
        | exact absurd h3 (by decide)
        | decide +kernel
set_option maxRecDepth 100000 in
theorem corn_RUU : cornO [82, 85, 85] 0 0 = some [86, 86, 86, 77] ∧ cornO [82, 85, 85] 1 0 = some [86, 77, 86, 86] := by decide +kernel
set_option maxRecDepth 100000 in
theorem corn_UrD : cornO [85, 114, 68] 0 0 = some [86, 86, 86, 77] ∧ cornO [85, 114, 68] 1 0 = some [86, 86, 77, 86] := by decide +kernel
set_option maxRecDepth 100000 in
theorem pat_RUU : pfB [vx90 [0, 1, 2, 3], vx90 [2, 4, 5, 6]] (btx [86, 86, 86, 77, 77, 86, 86]) = true := by decide +kernel
set_option maxRecDepth 100000 in
theorem pat_UrD : pfB [vx90 [0, 1, 2, 3], vx90 [2, 4, 5, 6]] (btx [86, 86, 86, 77, 86, 77, 86]) = true := by decide +kernel
theorem ints4 (w : World) (a b c d : Int) : IntsV (w.alloc (.cells #[.int .i64 a, .int .i64 b, .int .i64 c, .int .i64 d] 3)) (.slice (some ⟨w.heap.size, 0, none⟩) 4 4) [a, b, c, d] :=
  ⟨_, 4, rfl, Ints.of_own (World.ownsRow_lit (base := 0) w #[.int .i64 a, .int .i64 b, .int .i64 c, .int .i64 d] 4 (Nat.zero_le _) (by unfold maxLen; omega) rfl), Nat.le_refl _, by unfold maxLen; omega⟩
theorem verts1 (w : World) {U V : Value} {xs cs : List Int} (h1 : IntsV w U xs) (h2 : IntsV w V cs) : Verts (w.alloc (.cells #[U, V] 31)) (some ⟨w.heap.size, 0, none⟩) [(xs, cs)] := by
  intro _
  refine ⟨w.heap.size, 0, rfl, by simp, fun k v hk => ?_⟩
  have hK := Blk.new w 31 #[U, V]
  have hb : Below w.heap.size w (w.alloc (.cells #[U, V] 31)) := (Below.refl _ _).alloc (Nat.le_refl _) _
  match k, hk with
  | 0, hk =>
    cases hk
    exact ⟨U, V, hK.cell 0, hK.cell 1, h1.below hb, h2.below hb⟩
theorem verts2 (w : World) {U V U' V' : Value} {xs cs xs' cs' : List Int} (h1 : IntsV w U xs) (h2 : IntsV w V cs) (h3 : IntsV w U' xs') (h4 : IntsV w V' cs') : Verts (w.alloc (.cells #[U, V, U', V'] 31)) (some ⟨w.heap.size, 0, none⟩) [(xs, cs), (xs', cs')] := by
  intro _
  refine ⟨w.heap.size, 0, rfl, by simp, fun k v hk => ?_⟩
  have hK := Blk.new w 31 #[U, V, U', V']
  have hb : Below w.heap.size w (w.alloc (.cells #[U, V, U', V'] 31)) := (Below.refl _ _).alloc (Nat.le_refl _) _
  match k, hk with
  | 0, hk =>
    cases hk
    exact ⟨U, V, hK.cell 0, hK.cell 1, h1.below hb, h2.below hb⟩
  | 1, hk =>
    cases hk
    exact ⟨U', V', hK.cell 2, hK.cell 3, h3.below hb, h4.below hb⟩
set_option maxHeartbeats 4000000 in
set_option maxRecDepth 100000 in
theorem law_FnPatternSheet (A A' : Option Addr) (cap cap' : Nat) (bs bs2 : List UInt8) (w : World) (h : Codes w w.heap.size A bs) (hcap : bs.length ≤ cap) (hcm : cap ≤ maxLen) (hcap2 : bs2.length ≤ cap') (hcm2 : cap' ≤ maxLen) :
    Calls Try.prog 4 #[.slice A bs.length cap, .slice A' bs2.length cap'] w fun e w' => e = .returned (.bool true) ∧ Below w.heap.size w w' := by
  have hlm : bs.length ≤ maxLen := Nat.le_trans hcap hcm
  have hlm2 := hlm
  have hlm3 : bs2.length ≤ maxLen := Nat.le_trans hcap2 hcm2
  unfold maxLen at hlm2 hlm3
  by_cases g1 : 1048576 < bs.length
  · have d1 : decide ((1048576 : Int) < (bs.length : Int)) = true := by simp; omega
    go_enter Try.func4, Try.ntmps4
    go_wp2_with fail
    go_ret
    exact ⟨rfl, Below.refl _ _⟩
  have d1 : decide ((1048576 : Int) < (bs.length : Int)) = false := by simp; omega
  by_cases g2 : 1048576 < bs2.length
  · have d2 : decide ((1048576 : Int) < (bs2.length : Int)) = true := by simp; omega
    go_enter Try.func4, Try.ntmps4
    go_wp2_with fail
    go_ret
    exact ⟨rfl, Below.refl _ _⟩
  have d2 : decide ((1048576 : Int) < (bs2.length : Int)) = false := by simp; omega
  go_enter Try.func4, Try.ntmps4
  go_wp2_with fail
  refine (spec_DrawSheetCorner w A cap bs h (by omega) hcap hcm).mono ?_
  rintro e w1 ⟨s, y, x, rfl, hD, hs, hy, hx, hb1⟩
  have HB1 := Lib.hid hb1
  obtain ⟨heq, h3⟩ := corn_eq hD y x
  have HI := Lib.hid (fun W : World => impl_SheetCorner s y x W (by omega) hy hx)
  have HS := Lib.hid (fun W : World => spec_SheetCorner s y x W (by omega))
  rw [← heq] at HS
  obtain ⟨o, ho⟩ : ∃ o, o = cornO s.data.toList y x := ⟨_, rfl⟩
  rw [← ho] at HI HS h3
  clear hb1 heq hD ho hs hy hx h hcap hcm hcap2 hcm2 hlm
  cases o with
  | none =>
    have HI2 : Hid (∀ W : World, Calls Try.prog 6 #[.string s, .int .i64 y, .int .i64 x] W fun e w' => e = .returned (.tuple #[.string ⟨#[]⟩, .bool false]) ∧ Below W.heap.size W w') := HI.out
    have HS2 : Hid (∀ W : World, Calls Try.prog 7 #[.string s, .int .i64 y, .int .i64 x] W fun e w' => e = .returned (.tuple #[.string ⟨#[]⟩, .bool false]) ∧ Below W.heap.size W w') := HS.out
    clear HI HS h3
    go_wp2_with fail
    refine (HI2.out w1).mono ?_
    rintro e w2 ⟨rfl, hb2⟩
    have HB2 := Lib.hid (below_from HB1.out hb2 HB1.out.size)
    clear hb2 HB1
    go_wp2_with fail
    refine (HS2.out w2).mono ?_
    rintro e w3 ⟨rfl, hb3⟩
    have HB3 := Lib.hid (below_from HB2.out hb3 HB2.out.size)
    clear hb3 HB2
    go_wp2_with fail
    go_ret
    exact ⟨rfl, HB3.out⟩
  | some t =>
    have ht := h3 t rfl
    have hpf := three_pat ht
    have htl := three_len ht
    obtain ⟨T, hT⟩ : ∃ T, T = btx t := ⟨_, rfl⟩
    rw [← hT] at hpf
    have hTs : T.size = 4 := by rw [hT, btx_size]; exact htl
    have HI2 : Hid (∀ W : World, Calls Try.prog 6 #[.string s, .int .i64 y, .int .i64 x] W fun e w' => e = .returned (.tuple #[.string T, .bool true]) ∧ Below W.heap.size W w') := by show ∀ W : World, _; rw [hT]; exact HI.out
    have HS2 : Hid (∀ W : World, Calls Try.prog 7 #[.string s, .int .i64 y, .int .i64 x] W fun e w' => e = .returned (.tuple #[.string T, .bool true]) ∧ Below W.heap.size W w') := by show ∀ W : World, _; rw [hT]; exact HS.out
    have HV := Lib.hid (fun (B : Option Addr) (W : World) (hI : Verts W B [vx90 [0, 1, 2, 3]]) => impl_PatternFolds B 1 [vx90 [0, 1, 2, 3]] T W hI (by unfold maxLen; decide) (by unfold maxLen; omega) (by decide) (by unfold maxLen; decide))
    rw [hpf] at HV
    have te : (T.toList == T.toList) = true := by simp
    clear HI HS h3 ht hpf htl hT
    go_wp2_with fail
    refine (HI2.out w1).mono ?_
    rintro e w2 ⟨rfl, hb2⟩
    have HB2 := Lib.hid (below_from HB1.out hb2 HB1.out.size)
    clear hb2 HB1
    go_wp2_with fail
    refine (HS2.out w2).mono ?_
    rintro e w3 ⟨rfl, hb3⟩
    have HB3 := Lib.hid (below_from HB2.out hb3 HB2.out.size)
    clear hb3 HB2
    -- BOTH
    obtain ⟨wa, hwa⟩ : ∃ x, x = w3.alloc (.cells #[.int .i64 90, .int .i64 90, .int .i64 90, .int .i64 90] 3) := ⟨_, rfl⟩
    obtain ⟨wb, hwb⟩ : ∃ x, x = wa.alloc (.cells #[.int .i64 0, .int .i64 1, .int .i64 2, .int .i64 3] 3) := ⟨_, rfl⟩
    obtain ⟨wc, hwc⟩ : ∃ x, x = wb.alloc (.cells #[.slice (some ⟨w3.heap.size, 0, none⟩) 4 4, .slice (some ⟨w3.heap.size + 1, 0, none⟩) 4 4] 31) := ⟨_, rfl⟩
    obtain ⟨wd, hwd⟩ : ∃ x, x = wc.alloc (.cells #[.int .i64 90, .int .i64 90, .int .i64 90, .int .i64 90] 3) := ⟨_, rfl⟩
    obtain ⟨we, hwe⟩ : ∃ x, x = wd.alloc (.cells #[.int .i64 0, .int .i64 1, .int .i64 2, .int .i64 3] 3) := ⟨_, rfl⟩
    obtain ⟨wf, hwf⟩ : ∃ x, x = we.alloc (.cells #[.int .i64 90, .int .i64 90, .int .i64 90, .int .i64 90] 3) := ⟨_, rfl⟩
    obtain ⟨wg, hwg⟩ : ∃ x, x = wf.alloc (.cells #[.int .i64 2, .int .i64 4, .int .i64 5, .int .i64 6] 3) := ⟨_, rfl⟩
    obtain ⟨w9, hw9⟩ : ∃ x, x = wg.alloc (.cells #[.slice (some ⟨w3.heap.size + 3, 0, none⟩) 4 4, .slice (some ⟨w3.heap.size + 4, 0, none⟩) 4 4, .slice (some ⟨w3.heap.size + 5, 0, none⟩) 4 4, .slice (some ⟨w3.heap.size + 6, 0, none⟩) 4 4] 31) := ⟨_, rfl⟩
    have sa : wa.heap.size = w3.heap.size + 1 := by rw [hwa]; simp
    have sb : wb.heap.size = w3.heap.size + 2 := by rw [hwb]; simp [sa]
    have sc : wc.heap.size = w3.heap.size + 3 := by rw [hwc]; simp [sb]
    have sd : wd.heap.size = w3.heap.size + 4 := by rw [hwd]; simp [sc]
    have se : we.heap.size = w3.heap.size + 5 := by rw [hwe]; simp [sd]
    have sf : wf.heap.size = w3.heap.size + 6 := by rw [hwf]; simp [se]
    have sg : wg.heap.size = w3.heap.size + 7 := by rw [hwg]; simp [sf]
    have al : ∀ (x : World) (o : Obj), Below x.heap.size x (x.alloc o) := fun x o => (Below.refl _ _).alloc (Nat.le_refl _) o
    have bb : Below wa.heap.size wa wb := by rw [hwb]; exact al _ _
    have bc : Below wb.heap.size wb wc := by rw [hwc]; exact al _ _
    have bd : Below wc.heap.size wc wd := by rw [hwd]; exact al _ _
    have be : Below wd.heap.size wd we := by rw [hwe]; exact al _ _
    have bf : Below we.heap.size we wf := by rw [hwf]; exact al _ _
    have bg : Below wf.heap.size wf wg := by rw [hwg]; exact al _ _
    have b9 : Below wg.heap.size wg w9 := by rw [hw9]; exact al _ _
    have i1 : IntsV wb (.slice (some ⟨w3.heap.size, 0, none⟩) 4 4) [90, 90, 90, 90] := by
      have h := ints4 w3 90 90 90 90
      rw [← hwa] at h
      exact h.below bb
    have i2 : IntsV wb (.slice (some ⟨w3.heap.size + 1, 0, none⟩) 4 4) [0, 1, 2, 3] := by rw [hwb, ← sa]; exact ints4 wa 0 1 2 3
    have v1 : Verts wc (some ⟨w3.heap.size + 2, 0, none⟩) [vx90 [0, 1, 2, 3]] := by rw [hwc, ← sb]; exact verts1 wb i1 i2
    have i3 : IntsV wd (.slice (some ⟨w3.heap.size + 3, 0, none⟩) 4 4) [90, 90, 90, 90] := by rw [hwd, ← sc]; exact ints4 wc 90 90 90 90
    have i4 : IntsV we (.slice (some ⟨w3.heap.size + 4, 0, none⟩) 4 4) [0, 1, 2, 3] := by rw [hwe, ← sd]; exact ints4 wd 0 1 2 3
    have i5 : IntsV wf (.slice (some ⟨w3.heap.size + 5, 0, none⟩) 4 4) [90, 90, 90, 90] := by rw [hwf, ← se]; exact ints4 we 90 90 90 90
    have i6 : IntsV wg (.slice (some ⟨w3.heap.size + 6, 0, none⟩) 4 4) [2, 4, 5, 6] := by rw [hwg, ← sf]; exact ints4 wf 2 4 5 6
    have v2 : Verts w9 (some ⟨w3.heap.size + 7, 0, none⟩) [vx90 [0, 1, 2, 3], vx90 [2, 4, 5, 6]] := by
      rw [hw9, ← sg]
      exact verts2 wg (((i3.below be).below bf).below bg) ((i4.below bf).below bg) (i5.below bg) i6
    have v1' : Verts w9 (some ⟨w3.heap.size + 2, 0, none⟩) [vx90 [0, 1, 2, 3]] := ((((v1.below bd).below be).below bf).below bg).below b9
    have b39 : Below w3.heap.size w3 w9 := by
      have h1 : Below w3.heap.size w3 wa := by rw [hwa]; exact al _ _
      have h2 := h1.trans (bb.mono h1.size)
      have h3 := h2.trans (bc.mono h2.size)
      have h4 := h3.trans (bd.mono h3.size)
      have h5 := h4.trans (be.mono h4.size)
      have h6 := h5.trans (bf.mono h5.size)
      have h7 := h6.trans (bg.mono h6.size)
      exact h7.trans (b9.mono h7.size)
    have HB9 := Lib.hid (HB3.out.trans (b39.mono HB3.out.size))
    have HV1 := Lib.hid v1'
    have HV2 := Lib.hid v2
    have hbig : w9 = (((((((w3.alloc (.cells #[.int .i64 90, .int .i64 90, .int .i64 90, .int .i64 90] 3)).alloc (.cells #[.int .i64 0, .int .i64 1, .int .i64 2, .int .i64 3] 3)).alloc (.cells #[.slice (some ⟨w3.heap.size, 0, none⟩) 4 4, .slice (some ⟨w3.heap.size + 1, 0, none⟩) 4 4] 31)).alloc (.cells #[.int .i64 90, .int .i64 90, .int .i64 90, .int .i64 90] 3)).alloc (.cells #[.int .i64 0, .int .i64 1, .int .i64 2, .int .i64 3] 3)).alloc (.cells #[.int .i64 90, .int .i64 90, .int .i64 90, .int .i64 90] 3)).alloc (.cells #[.int .i64 2, .int .i64 4, .int .i64 5, .int .i64 6] 3)).alloc (.cells #[.slice (some ⟨w3.heap.size + 3, 0, none⟩) 4 4, .slice (some ⟨w3.heap.size + 4, 0, none⟩) 4 4, .slice (some ⟨w3.heap.size + 5, 0, none⟩) 4 4, .slice (some ⟨w3.heap.size + 6, 0, none⟩) 4 4] 31) := by
      rw [hw9, hwg, hwf, hwe, hwd, hwc, hwb, hwa]
    have HBig := Lib.hid hbig
    clear hwa hwb hwc hwd hwe hwf hwg hw9 sa sb sc sd se sf sg al bb bc bd be bf bg b9 i1 i2 v1 i3 i4 i5 i6 v2 v1' b39 hbig
    have hmod : bs2.length % 2 = 0 ∨ bs2.length % 2 = 1 := by omega
    rcases hmod with hmod | hmod
    · have km1 : (((bs2.length : Int).tmod 2) == 1) = false := by rw [Int.tmod_eq_emod_of_nonneg (by omega)]; rw [beq_eq_false_iff_ne]; omega
      have km2 : (((bs2.length : Int) % 2) == 1) = false := by rw [beq_eq_false_iff_ne]; omega
      have HC1 : Hid (∀ W : World, Calls Try.prog 6 #[.string ⟨#[82, 85, 85]⟩, .int .i64 0, .int .i64 0] W fun e w' => e = .returned (.tuple #[.string ⟨#[86, 86, 86, 77]⟩, .bool true]) ∧ Below W.heap.size W w') := by
        show ∀ W : World, _
        intro W
        have := impl_SheetCorner ⟨#[82, 85, 85]⟩ 0 0 W (by decide) (by omega) (by omega)
        have e : cornO (⟨#[82, 85, 85]⟩ : ByteArray).data.toList 0 0 = some [86, 86, 86, 77] := corn_RUU.1
        rw [e] at this
        exact this
      have HC2 : Hid (∀ W : World, Calls Try.prog 6 #[.string ⟨#[82, 85, 85]⟩, .int .i64 1, .int .i64 0] W fun e w' => e = .returned (.tuple #[.string ⟨#[86, 77, 86, 86]⟩, .bool true]) ∧ Below W.heap.size W w') := by
        show ∀ W : World, _
        intro W
        have := impl_SheetCorner ⟨#[82, 85, 85]⟩ 1 0 W (by decide) (by omega) (by omega)
        have e : cornO (⟨#[82, 85, 85]⟩ : ByteArray).data.toList 1 0 = some [86, 77, 86, 86] := corn_RUU.2
        rw [e] at this
        exact this
      have HP2 : Hid (∀ (B : Option Addr) (W : World), Verts W B [vx90 [0, 1, 2, 3], vx90 [2, 4, 5, 6]] → Calls Try.prog 9 #[.slice B 2 2, .string ⟨#[86, 86, 86, 77, 77, 86, 86]⟩] W fun e w' => e = .returned (.bool true) ∧ Below W.heap.size W w') := by
        show ∀ (B : Option Addr) (W : World), _
        intro B W hI
        have := impl_PatternFolds B 2 [vx90 [0, 1, 2, 3], vx90 [2, 4, 5, 6]] ⟨#[86, 86, 86, 77, 77, 86, 86]⟩ W hI (by unfold maxLen; decide) (by unfold maxLen; decide) (by decide) (by unfold maxLen; decide)
        have e : pfB [vx90 [0, 1, 2, 3], vx90 [2, 4, 5, 6]] ⟨#[86, 86, 86, 77, 77, 86, 86]⟩ = true := pat_RUU
        rw [e] at this
        exact this
      clear hmod
      go_wp2_with fail
      rw [← HBig.out]
      refine (HC1.out w9).mono ?_
      rintro e wh ⟨rfl, hbh⟩
      have HBH := Lib.hid (HB9.out.trans (hbh.mono HB9.out.size))
      have HVH1 := Lib.hid (HV1.out.below hbh)
      have HVH2 := Lib.hid (HV2.out.below hbh)
      clear hbh HB9 HV1 HV2
      go_wp2_with fail
      refine (HC2.out wh).mono ?_
      rintro e wi ⟨rfl, hbi⟩
      have HBI := Lib.hid (HBH.out.trans (hbi.mono HBH.out.size))
      have HVI1 := Lib.hid (HVH1.out.below hbi)
      have HVI2 := Lib.hid (HVH2.out.below hbi)
      clear hbi HBH HVH1 HVH2
      go_wp2_with fail
      go_quiet (fail)
      go_wp2_with fail
      refine (HV.out _ _ (HVI1.out.below (below_drewN (Below.refl _ _) _))).mono ?_
      rintro e wj ⟨rfl, hbj⟩
      have HBJ := Lib.hid ((below_drewN HBI.out _).trans (hbj.mono HBI.out.size))
      have HVJ := Lib.hid ((HVI2.out.below (below_drewN (Below.refl _ _) _)).below hbj)
      clear hbj
      go_wp2_with fail
      refine (HP2.out _ _ HVJ.out).mono ?_
      rintro e wk ⟨rfl, hbk⟩
      have HBK := Lib.hid (HBJ.out.trans (hbk.mono HBJ.out.size))
      go_wp2_with fail
      go_ret
      exact ⟨rfl, HBK.out⟩
    · have km1 : (((bs2.length : Int).tmod 2) == 1) = true := by rw [Int.tmod_eq_emod_of_nonneg (by omega)]; rw [beq_iff_eq]; omega
      have km2 : (((bs2.length : Int) % 2) == 1) = true := by rw [beq_iff_eq]; omega
      have HC1 : Hid (∀ W : World, Calls Try.prog 6 #[.string ⟨#[85, 114, 68]⟩, .int .i64 0, .int .i64 0] W fun e w' => e = .returned (.tuple #[.string ⟨#[86, 86, 86, 77]⟩, .bool true]) ∧ Below W.heap.size W w') := by
        show ∀ W : World, _
        intro W
        have := impl_SheetCorner ⟨#[85, 114, 68]⟩ 0 0 W (by decide) (by omega) (by omega)
        have e : cornO (⟨#[85, 114, 68]⟩ : ByteArray).data.toList 0 0 = some [86, 86, 86, 77] := corn_UrD.1
        rw [e] at this
        exact this
      have HC2 : Hid (∀ W : World, Calls Try.prog 6 #[.string ⟨#[85, 114, 68]⟩, .int .i64 1, .int .i64 0] W fun e w' => e = .returned (.tuple #[.string ⟨#[86, 86, 77, 86]⟩, .bool true]) ∧ Below W.heap.size W w') := by
        show ∀ W : World, _
        intro W
        have := impl_SheetCorner ⟨#[85, 114, 68]⟩ 1 0 W (by decide) (by omega) (by omega)
        have e : cornO (⟨#[85, 114, 68]⟩ : ByteArray).data.toList 1 0 = some [86, 86, 77, 86] := corn_UrD.2
        rw [e] at this
        exact this
      have HP2 : Hid (∀ (B : Option Addr) (W : World), Verts W B [vx90 [0, 1, 2, 3], vx90 [2, 4, 5, 6]] → Calls Try.prog 9 #[.slice B 2 2, .string ⟨#[86, 86, 86, 77, 86, 77, 86]⟩] W fun e w' => e = .returned (.bool true) ∧ Below W.heap.size W w') := by
        show ∀ (B : Option Addr) (W : World), _
        intro B W hI
        have := impl_PatternFolds B 2 [vx90 [0, 1, 2, 3], vx90 [2, 4, 5, 6]] ⟨#[86, 86, 86, 77, 86, 77, 86]⟩ W hI (by unfold maxLen; decide) (by unfold maxLen; decide) (by decide) (by unfold maxLen; decide)
        have e : pfB [vx90 [0, 1, 2, 3], vx90 [2, 4, 5, 6]] ⟨#[86, 86, 86, 77, 86, 77, 86]⟩ = true := pat_UrD
        rw [e] at this
        exact this
      clear hmod
      go_wp2_with fail
      rw [← HBig.out]
      refine (HC1.out w9).mono ?_
      rintro e wh ⟨rfl, hbh⟩
      have HBH := Lib.hid (HB9.out.trans (hbh.mono HB9.out.size))
      have HVH1 := Lib.hid (HV1.out.below hbh)
      have HVH2 := Lib.hid (HV2.out.below hbh)
      clear hbh HB9 HV1 HV2
      go_wp2_with fail
      refine (HC2.out wh).mono ?_
      rintro e wi ⟨rfl, hbi⟩
      have HBI := Lib.hid (HBH.out.trans (hbi.mono HBH.out.size))
      have HVI1 := Lib.hid (HVH1.out.below hbi)
      have HVI2 := Lib.hid (HVH2.out.below hbi)
      clear hbi HBH HVH1 HVH2
      go_wp2_with fail
      go_quiet (fail)
      go_wp2_with fail
      refine (HV.out _ _ (HVI1.out.below (below_drewN (Below.refl _ _) _))).mono ?_
      rintro e wj ⟨rfl, hbj⟩
      have HBJ := Lib.hid ((below_drewN HBI.out _).trans (hbj.mono HBI.out.size))
      have HVJ := Lib.hid ((HVI2.out.below (below_drewN (Below.refl _ _) _)).below hbj)
      clear hbj
      go_wp2_with fail
      refine (HP2.out _ _ HVJ.out).mono ?_
      rintro e wk ⟨rfl, hbk⟩
      have HBK := Lib.hid (HBJ.out.trans (hbk.mono HBJ.out.size))
      go_wp2_with fail
      go_ret
      exact ⟨rfl, HBK.out⟩
end Go.Proofs.Ytdpfnhkhojiddaa
