/- Walk: a patch as lines: the reference's. -/
import Derived.Test.YteofafgleojmhaaDoorWritePlain
import Derived.Test.YteofafgleojmhaaDoorStr
import Derived.Test.YteofafgleojmhaaDoorRepL
import Derived.Test.YteofafgleojmhaaDoorPatchOk2
import Derived.Deep.RegionHeld3
import Derived.Deep.RegionWith
namespace Go.Proofs.YteofafgleojmhaaDoor
open Go.RowKit

theorem conv_at (W : World) (g : Nat) (d : UInt8) (v : Int) (hv : v = (d.toNat : Int)) (h : W.cell? ⟨g, 0, none⟩ = some (.int .u8 v)) : (convert 51 9 (.slice (some ⟨g, 0, none⟩) 1 1)).run Tryd.prog W = .ok (.string ⟨[d].toArray⟩) W := by
  refine run_convert_bytes_back W _ _ 5 ⟨g, 0, none⟩ 1 [d] Tryd.underlying51 Tryd.underlying5 Tryd.underlying9 (fun j hj => ?_)
  obtain rfl : j = 0 := by simpa using hj
  simp only [List.getElem_cons_zero, Addr.add_lit, Nat.zero_add]
  rw [h, hv]

set_option maxRecDepth 100000 in
set_option maxHeartbeats 1600000 in
theorem spec_l1Dec_small (n : Nat) (hn : n < 10) (w : World) :
    Calls Tryd.prog 22 #[.int .i64 n] w fun e w' => e = .returned (.string ⟨(Lib.decDigits n).toArray⟩) ∧ Below w.heap.size w w' := by
  obtain ⟨d, hd⟩ : ∃ d, d = UInt8.ofNat (48 + n) := ⟨_, rfl⟩
  have hdn : d.toNat = 48 + n := by rw [hd, UInt8.toNat_ofNat']; omega
  have hc := conv_at (w.alloc (Obj.cells #[.int .u8 (48 + (n : Int))] 5)) w.heap.size d (48 + (n : Int)) (by omega) (by simp [go_sem])
  have h1 : (n : Int) < 10 := by omega
  have h2 : ¬ ((n : Int) < 0) := by omega
  have h3 : ¬ ((n : Int) < -9223372036854775807) := by omega
  have hdig := decDigits_lt hn
  obtain ⟨D, hD⟩ : ∃ D, D = Lib.decDigits n := ⟨_, rfl⟩
  rw [← hD, ← hd] at hdig
  rw [← hD]
  have Hdig := Lib.hid hdig
  clear hdig hD hd hdn
  go_enter Tryd.func22, Tryd.ntmps22
  go_wp2
  go_ret
  exact ⟨by rw [Hdig.out]; rfl, by (repeat' (first | with_reducible exact Below.refl _ _ | with_reducible assumption | (with_reducible refine Below.setCell ?_ ?_ _) | (with_reducible refine Below.alloc ?_ ?_ _) | (with_reducible refine below_drewN ?_ _) | (with_reducible refine Below.drew ?_) | omega | (simp; done) | (simp; omega)))⟩
set_option maxRecDepth 100000 in
set_option maxHeartbeats 1600000 in
theorem spec_l1Dec_any (n : Nat) (hn : n ≤ 10) (w : World) :
    Calls Tryd.prog 22 #[.int .i64 n] w fun e w' => e = .returned (.string ⟨(Lib.decDigits n).toArray⟩) ∧ Below w.heap.size w w' := by
  by_cases h10 : n < 10
  · exact spec_l1Dec_small n h10 w
  · obtain rfl : n = 10 := by omega
    have hd : Lib.decDigits 10 = [49, 48] := by rw [decDigits_ge (by omega), decDigits_lt (by omega)]; rfl
    have hd1 : Lib.decDigits 1 = [49] := by rw [decDigits_lt (by omega)]; rfl
    have hcall := fun w => spec_l1Dec_small 1 (by omega) w
    rw [hd1] at hcall
    rw [hd]
    have happ := bytes_app [49] [48]
    have c0 : (w.alloc (Obj.cells #[.int .u8 (IntKind.u8.wrap (IntKind.i64.wrap 48))] 5)).cell? ⟨w.heap.size, 0, none⟩ = some (.int .u8 (IntKind.u8.wrap (IntKind.i64.wrap 48))) := by simp [go_sem]
    have hq0 := conv_at (w.alloc (Obj.cells #[.int .u8 (IntKind.u8.wrap (IntKind.i64.wrap 48))] 5)).drew w.heap.size 48 (IntKind.u8.wrap (IntKind.i64.wrap 48)) (by decide) c0
    have hq1 := conv_at (w.drew.alloc (Obj.cells #[.int .u8 (IntKind.u8.wrap (IntKind.i64.wrap 48))] 5)) w.heap.size 48 (IntKind.u8.wrap (IntKind.i64.wrap 48)) (by decide) c0
    have hq2 := conv_at (w.alloc (Obj.cells #[.int .u8 (IntKind.u8.wrap (IntKind.i64.wrap 48))] 5)) w.heap.size 48 (IntKind.u8.wrap (IntKind.i64.wrap 48)) (by decide) c0
    clear hd hd1 h10
    go_enter Tryd.func22, Tryd.ntmps22
    go_wp2
    go_region_with ((first
      | (go_at_call 22; refine (hcall _).mono ?_
         rintro e w5 ⟨rfl, hb5⟩
         have hq5 := conv_at (w5.alloc (Obj.cells #[.int .u8 (IntKind.u8.wrap (IntKind.i64.wrap 48))] 5)) w5.heap.size 48 (IntKind.u8.wrap (IntKind.i64.wrap 48)) (by decide) (by simp [go_sem])
         first
           | (have hq6 := conv_at w5 w.heap.size 48 (IntKind.u8.wrap (IntKind.i64.wrap 48)) (by decide) ((hb5.cell (p := ⟨w.heap.size, 0, none⟩) (by simp)).trans c0))
           | skip)))
    all_goals
      go_wp2
      go_ret
      have h5 := hb5.size
      simp at h5
      have h5' : w.heap.size ≤ w5.heap.size := by omega
      have hb5' : Below w.heap.size w w5 := Below.trans (by (repeat' (first | with_reducible exact Below.refl _ _ | with_reducible assumption | (with_reducible refine Below.setCell ?_ ?_ _) | (with_reducible refine Below.alloc ?_ ?_ _) | (with_reducible refine below_drewN ?_ _) | (with_reducible refine Below.drew ?_) | omega | (simp; done) | (simp; omega)))) (hb5.mono (by first | omega | (simp; done) | (simp; omega)))
      exact ⟨rfl, by (repeat' (first | with_reducible exact Below.refl _ _ | with_reducible assumption | (with_reducible refine Below.setCell ?_ ?_ _) | (with_reducible refine Below.alloc ?_ ?_ _) | (with_reducible refine below_drewN ?_ _) | (with_reducible refine Below.drew ?_) | omega | (simp; done) | (simp; omega)))⟩
end Go.Proofs.YteofafgleojmhaaDoor
