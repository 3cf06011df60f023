/- slices.Sort at []string: the shelf's contract laid at this dump (its table of numbers and facts written by the shelf's tool), and what it says of a row of the call's own. No condition but sizes. -/
import Derived.Shelf.SortM.Plain
import Derived.Ground.SlgmProg
import Derived.Sort.OwnSorted
import Derived.Test.YtfhogdbhfbnocaaStrs
import Derived.Test.YtfhogdbhfbnocaaWords
namespace Go.Proofs.Ytfhogdbhfbnocaa
open Go.Shelf
def Try.sort33_ren : Go.Shelf.Ren := ⟨fun | 6 => 33 | 8 => 46 | 9 => 45 | 19 => 57 | 20 => 58 | 21 => 48 | 22 => 49 | 23 => 50 | 24 => 51 | 25 => 52 | 26 => 53 | 27 => 54 | 28 => 55 | 29 => 56 | 36 => 59 | 31 => 60 | 32 => 61 | 37 => 62 | 38 => 63 | 39 => 64 | 41 => 65 | n => n, fun | 27 => 35 | 29 => 9 | 3 => 3 | 32 => 53 | 26 => 35 | 0 => 0 | 44 => 64 | 46 => 66 | 4 => 4 | 36 => 56 | 35 => 55 | 41 => 61 | 5 => 5 | 9 => 9 | 53 => 67 | 57 => 71 | 63 => 73 | 64 => 28 | n => n, fun | n => n⟩
theorem Try.sort33 : Go.Proofs.SlLaysM.n6 Try.prog Try.sort33_ren := {
  mixed := by kernel_rfl
  f6 := ⟨Try.f33.name, by decide, Try.func33.trans (congrArg some (by kernel_rfl))⟩
  f8 := Try.func46.trans (congrArg some (by kernel_rfl))
  f9 := ⟨Try.f45.name, by decide, Try.func45.trans (congrArg some (by kernel_rfl))⟩
  f19 := Try.func57.trans (congrArg some (by kernel_rfl))
  f20 := Try.func58.trans (congrArg some (by kernel_rfl))
  f21 := ⟨Try.f48.name, by decide, Try.func48.trans (congrArg some (by kernel_rfl))⟩
  f22 := ⟨Try.f49.name, by decide, Try.func49.trans (congrArg some (by kernel_rfl))⟩
  f23 := ⟨Try.f50.name, by decide, Try.func50.trans (congrArg some (by kernel_rfl))⟩
  f24 := ⟨Try.f51.name, by decide, Try.func51.trans (congrArg some (by kernel_rfl))⟩
  f25 := ⟨Try.f52.name, by decide, Try.func52.trans (congrArg some (by kernel_rfl))⟩
  f26 := ⟨Try.f53.name, by decide, Try.func53.trans (congrArg some (by kernel_rfl))⟩
  f27 := ⟨Try.f54.name, by decide, Try.func54.trans (congrArg some (by kernel_rfl))⟩
  f28 := ⟨Try.f55.name, by decide, Try.func55.trans (congrArg some (by kernel_rfl))⟩
  f29 := ⟨Try.f56.name, by decide, Try.func56.trans (congrArg some (by kernel_rfl))⟩
  f31 := Try.func60.trans (congrArg some (by kernel_rfl))
  f32 := Try.func61.trans (congrArg some (by kernel_rfl))
  f36 := ⟨Try.f59.name, by decide, Try.func59.trans (congrArg some (by kernel_rfl))⟩
  f37 := ⟨Try.f62.name, by decide, Try.func62.trans (congrArg some (by kernel_rfl))⟩
  f38 := ⟨Try.f63.name, by decide, Try.func63.trans (congrArg some (by kernel_rfl))⟩
  f39 := ⟨Try.f64.name, by decide, Try.func64.trans (congrArg some (by kernel_rfl))⟩
  f41 := ⟨Try.f65.name, by decide, Try.func65.trans (congrArg some (by kernel_rfl))⟩
  t0 := Try.underlying0
  a0 := Try.isAgg0
  z0 := Try.sizeOf0
  v0 := Try.zeroValue0
  t3 := Try.underlying3
  a3 := Try.isAgg3
  z3 := Try.sizeOf3
  v3 := Try.zeroValue3
  t4 := Try.underlying4
  a4 := Try.isAgg4
  z4 := Try.sizeOf4
  v4 := Try.zeroValue4
  t5 := Try.underlying5
  a5 := Try.isAgg5
  z5 := Try.sizeOf5
  v5 := Try.zeroValue5
  t9 := Try.underlying9
  a9 := Try.isAgg9
  z9 := Try.sizeOf9
  v9 := Try.zeroValue9
  t26 := Try.underlying35
  a26 := Try.isAgg35
  z26 := Try.sizeOf35
  v26 := Try.zeroValue35
  t27 := Try.underlying35
  a27 := Try.isAgg35
  z27 := Try.sizeOf35
  v27 := Try.zeroValue35
  t29 := Try.underlying9
  a29 := Try.isAgg9
  z29 := Try.sizeOf9
  v29 := Try.zeroValue9
  t32 := Try.underlying53
  a32 := Try.isAgg53
  z32 := Try.sizeOf53
  v32 := Try.zeroValue53
  t35 := Try.underlying55
  a35 := Try.isAgg55
  z35 := Try.sizeOf55
  v35 := Try.zeroValue55
  t36 := Try.underlying56
  a36 := Try.isAgg56
  z36 := Try.sizeOf56
  v36 := Try.zeroValue56
  t41 := Try.underlying61
  a41 := Try.isAgg61
  z41 := Try.sizeOf61
  v41 := Try.zeroValue61
  t44 := Try.underlying64
  a44 := Try.isAgg64
  z44 := Try.sizeOf64
  v44 := Try.zeroValue64
  t46 := Try.underlying66
  a46 := Try.isAgg66
  z46 := Try.sizeOf66
  v46 := Try.zeroValue66
  t53 := Try.underlying67
  a53 := Try.isAgg67
  z53 := Try.sizeOf67
  v53 := Try.zeroValue67
  t57 := Try.underlying71
  a57 := Try.isAgg71
  z57 := Try.sizeOf71
  v57 := Try.zeroValue71
  t63 := Try.underlying73
  a63 := Try.isAgg73
  z63 := Try.sizeOf73
  v63 := Try.zeroValue73
  t64 := Try.underlying28
  a64 := Try.isAgg28
  z64 := Try.sizeOf28
  v64 := Try.zeroValue28 }

open Go.RowKit Go.Sort
theorem slices_Sort (w : World) (B g cap : Nat) (L : List Tx) (h : OwnS w B (.slice (some ⟨g, 0, none⟩) L.length cap) L) (hm : L.length ≤ 1000000) :
    Calls Try.prog 33 #[.slice (some ⟨g, 0, none⟩) L.length cap] w fun e w' => e = .returned (.tuple #[]) ∧ OwnS w' B (.slice (some ⟨g, 0, none⟩) (srt L).length cap) (srt L) ∧ Below B w w' := by
  rcases h.2 with ⟨h0, _⟩ | ⟨g', cap', cur, hv, hb, hg, hnc, hcm, hcs, htake⟩
  · cases h0
  · cases hv
    have hH := holds_of_block (ss := L) hg (by rw [Nat.mul_one] at htake; exact htake)
    have hlt : g < w.heap.size := (Array.getElem?_eq_some_iff.1 hg).1
    refine (AnyM.slices_Sort_string Try.sort33 g 0 cap L w hH hlt (by omega)).mono ?_
    rintro e w' ⟨rfl, n, os, rfl⟩
    have hl : (srt L).length = L.length := (srt_perm L).length_eq
    have ho : (grow (putRow encStr (Sort.ahead w n) g 0 (srt L).toArray) os).ownsRow B 9 1 (.slice (some ⟨g, 0, none⟩) L.length cap) L.length ((srt L).map encStr) := ownsRow_sorted hl hb hg hnc hcm hcs
    refine ⟨rfl, ?_, ?_⟩
    · show World.ownsRow _ _ _ _ _ _ _
      rw [hl]; exact ho
    · exact (Below.refl B w).grown (grownBy_sorted (srt L).toArray) (Nat.le_trans hb (Nat.le_of_lt hlt)) (fun k hk => by cases hk; exact hb)
end Go.Proofs.Ytfhogdbhfbnocaa
