/- Walks: the laws' own helpers that write a mark into each cell and look whether the marks still stand: texts and integers. -/
import Derived.Test.YteofafgleojmhaaDoorMarkPlain
import Derived.Test.YteofafgleojmhaaDoorInts
import Derived.Laws.IdiomStrings
namespace Go.Proofs.YteofafgleojmhaaDoor
open Go.RowKit

theorem bytes_app (a b : Str) : (⟨a.toArray⟩ : ByteArray) ++ ⟨b.toArray⟩ = ⟨(a ++ b).toArray⟩ := by
  apply ByteArray.ext
  simp [ByteArray.data_append]
theorem ret_str {a b : ByteArray} (h : a = b) : Ending.returned (.string a) = .returned (.string b) := by rw [h]

set_option maxHeartbeats 800000 in
theorem markText_any (k : Int) (w : World) (hk : k ≤ 1099511627776) :
    Calls Tryd.prog 32 #[.int .i64 k] w fun e w' => e = .returned (.string ⟨(markT k).toArray⟩) ∧ Below w.heap.size w w' := by
  by_cases h0 : k ≤ 0
  · go_enter Tryd.func32, Tryd.ntmps32
    go_wp2
    go_ret
    exact ⟨by simp [markT, h0], Below.refl _ _⟩
  · obtain ⟨n, rfl⟩ := Int.eq_ofNat_of_zero_le (by omega : 0 ≤ k)
    go_enter Tryd.func32, Tryd.ntmps32
    go_wp2
    go_loopw [0, 3] (fun kk out wr => ∃ (m : Nat) (acc : Str), kk = .int .i64 m ∧ out = .string ⟨acc.toArray⟩ ∧ acc.length + m ≤ n ∧ Hid (digs m acc = digs n []) ∧ Below w.heap.size w wr) (fun kk _ _ => (intOf kk).toNat)
    case atStart => exact ⟨n, [], rfl, rfl, by simp, Lib.hid rfl, Below.refl _ _⟩
    case round =>
      obtain ⟨m, acc, rfl, rfl, hl, hd, hb⟩ := hrel
      by_cases hm : 0 < m
      · have hm' : (0 : Int) < (m : Int) := by omega
        obtain ⟨d, ed⟩ : ∃ d, d = UInt8.ofNat (48 + m % 10) := ⟨_, rfl⟩
        have hdig : d.toNat = 48 + m % 10 := by
          rw [ed, UInt8.toNat_ofNat']; omega
        have hconv : (convert 51 9 (.slice (some ⟨wr.heap.size, 0, none⟩) 1 1)).run Tryd.prog (wr.alloc (Obj.cells #[.int .u8 (48 + (m : Int) % 10)] 5)) = .ok (.string ⟨[d].toArray⟩) (wr.alloc (Obj.cells #[.int .u8 (48 + (m : Int) % 10)] 5)) := by
          refine run_convert_bytes_back (wr.alloc (Obj.cells #[.int .u8 (48 + (m : Int) % 10)] 5)) _ _ 5 ⟨wr.heap.size, 0, none⟩ 1 [d] Tryd.underlying51 Tryd.underlying5 Tryd.underlying9 (fun j hj => ?_)
          obtain rfl : j = 0 := by simpa using hj
          simp only [List.getElem_cons_zero, hdig]
          simp [go_sem]
        have Hd := Lib.hid ed
        clear hdig ed
        go_wp2
        go_roundw
        case rel => exact ⟨m / 10, d :: acc, by go_num, by rw [show #[d] = [d].toArray from rfl, bytes_app]; rfl, by simp; omega, Lib.hid (by rw [← hd.out, digs_step hm, Hd.out]), hb.alloc hb.size _⟩
        case measure => simp [intOf]; omega
      · obtain rfl : m = 0 := by omega
        go_wp2
        go_ret
        refine ⟨ret_str ?_, hb⟩
        have hd := hd.out
        rw [digs_zero] at hd
        subst hd
        rw [markT, if_neg (by omega)]
        exact bytes_app [109] _

theorem own_row_ne {F G : List Nat} {g n c : Nat} (hF : F = (Value.slice (some ⟨g, 0, none⟩) n c).ownBlock.toList ++ G) (hnd : F.Nodup) : ∀ q ∈ G, q ≠ g := by
  intro q hq e
  subst e hF
  exact (List.nodup_append.1 hnd).2.2 q (by simp [Value.ownBlock]) q hq rfl

set_option maxHeartbeats 800000 in
theorem markStringS_any (A : Option Addr) (n c : Nat) (xs : List Str) (k : Int) (w : World) (F : List Nat) (h : Own w (encText xs) (.slice A n c) F) (hnd : F.Nodup) (h0 : 0 ≤ k) (h1 : k + xs.length ≤ 1099511627776) :
    Calls Tryd.prog 18 #[.slice A n c, .int .i64 k] w fun e w' => e = .returned (.int .i64 (k + xs.length)) ∧ Own w' (encText (markTs k xs)) (.slice A n c) F ∧ Only F w w' := by
  obtain ⟨us, G, hown, hF, ho, hl, hc, hm, hA⟩ := Own.open_ h
  have hl : n = xs.length := by rw [length_flatMap_z cText_len] at hl; omega
  subst hl
  clear h
  rw [← halfWith_zero cntStr (fun k _ => markT k) k xs] at ho
  go_enter Tryd.func18, Tryd.ntmps18
  go_wp2
  go_loopw [1, 5] (fun kk i wr => ∃ (m : Nat) (us : List Value), m ≤ xs.length ∧ i = .int .i64 m ∧ kk = .int .i64 (k + m) ∧ wr.ownsRow 0 9 1 (.slice A xs.length c) xs.length us ∧ Owns wr ((halfWith cntStr (fun k _ => markT k) k xs m).flatMap cText) us G ∧ Only F w wr) (fun _ i _ => xs.length - (intOf i).toNat)
  case atStart => exact ⟨0, us, Nat.zero_le _, rfl, by simp, hown, ho, Only.refl _ _⟩
  case round =>
    clear hown ho
    obtain ⟨m, us, hk, rfl, rfl, hown, ho, hon⟩ := hrel
    by_cases hkn : m < xs.length
    · obtain ⟨g, rfl⟩ := hA (by omega)
      have hkn' : (m : Int) < (xs.length : Int) := by omega
      obtain ⟨x, hx⟩ : ∃ x, xs[m]? = some x := ⟨_, List.getElem?_eq_getElem hkn⟩
      go_wp2_with fail
      refine Calls.mono (markText_any (k + m) wr (by omega)) ?_
      rintro e w2 ⟨rfl, hb2⟩
      have hlt := ho.lt
      have hown := ownsRow_same (w' := w2) hown (fun q hq => hb2.block q (hown.lt q (by simpa using hq)).2)
      have ho := Owns.same _ _ _ ho (w' := w2) (fun q hq => hb2.block q (hlt q hq))
      have hon := hon.trans (Only.of_below hb2)
      have hul := hown.1
      obtain ⟨u0, hu0⟩ : ∃ u0, us[m]? = some u0 := ⟨us[m]'(by omega), List.getElem?_eq_getElem (by omega)⟩
      have hcell := hown.cellAt m (by omega)
      rw [hu0] at hcell
      have hfr := hown.frozenAt m
      have hnew := (hown.stored m (.string ⟨(markT (k + m)).toArray⟩)).1
      have hp : ((halfWith cntStr (fun k _ => markT k) k xs m).flatMap cText)[m]? = some (.str x) := by
        have := flatMap_at cText_len (halfWith cntStr (fun k _ => markT k) k xs m) m 0 (by omega)
        rw [halfWith_at, hx] at this
        simpa [cText] using this
      have hset : ((halfWith cntStr (fun k _ => markT k) k xs m).flatMap cText).set m (.str (markT (k + m))) = (halfWith cntStr (fun k _ => markT k) k xs (m + 1)).flatMap cText := by
        have h2 := halfWith_step cntStr (fun k _ => markT k) k hx
        have h3 := cntStr_sum (xs.take m)
        rw [h3, List.length_take, Nat.min_eq_left (by omega)] at h2
        rw [← h2, flatMap_set cText_len _ _ _ (by rw [halfWith_length]; exact hkn), Nat.mul_one]
        rfl
      have hgF := own_row_ne hF hnd
      have hO := ho.plain_set (w' := w2.setCell ⟨g, m, none⟩ (.string ⟨(markT (k + m)).toArray⟩)) (p' := .str (markT (k + m))) (u' := .string ⟨(markT (k + m)).toArray⟩) hp (fun w u F h => h.2) (fun q hq => Below.heap_setCell w2 ⟨g, m, none⟩ _ q (hgF q hq)) (fun w => ⟨rfl, rfl⟩)
      rw [hset] at hO
      have HO := Lib.hid hO
      clear hset hp hO hu0 hul hx
      go_wp2
      go_roundw
      case rel => exact ⟨m + 1, _, by omega, by go_num, by go_num, hnew, HO.out, hon.setCell (by rw [hF]; simp [Value.ownBlock]) _⟩
      case measure => simp [intOf]; omega
    · obtain rfl : m = xs.length := by omega
      rw [halfWith_all _ _ _ _ (Nat.le_refl _)] at ho
      go_wp2
      go_ret
      exact ⟨rfl, Own.shut hown hF ho, hon⟩


set_option maxHeartbeats 800000 in
theorem heldStringS_any (A : Option Addr) (n c : Nat) (xs : List Str) (k : Int) (w : World) (lo hi : Nat) (h : Rep w lo hi (encText (markTs k xs)) (.slice A n c)) (hh : hi ≤ w.heap.size) (h0 : 0 ≤ k) (h1 : k + xs.length ≤ 1099511627776) :
    Calls Tryd.prog 19 #[.slice A n c, .int .i64 k] w fun e w' => e = .returned (.int .i64 (k + xs.length)) ∧ Below w.heap.size w w' := by
  have hl := Text.n h
  obtain ⟨hc, hm⟩ := Text.cap h
  rw [markTs, marksWith_length] at hl
  subst hl
  go_enter Tryd.func19, Tryd.ntmps19
  go_wp2
  go_loopw [1, 5] (fun kk i wr => ∃ m : Nat, m ≤ xs.length ∧ i = .int .i64 m ∧ kk = .int .i64 (k + m) ∧ Below w.heap.size w wr) (fun _ i _ => xs.length - (intOf i).toNat)
  case atStart => exact ⟨0, Nat.zero_le _, rfl, by simp, Below.refl _ _⟩
  case round =>
    obtain ⟨m, hk, rfl, rfl, hb⟩ := hrel
    by_cases hkn : m < xs.length
    · obtain ⟨b1, o1, x, rfl, _, _, hx, hcell⟩ := Text.at (h.keep hb hh) hkn
      have hkn' : (m : Int) < (xs.length : Int) := by omega
      rw [markTs, marksWith_get, List.getElem?_eq_getElem hkn, Option.map_some, Option.some.injEq, cntStr_sum, List.length_take, Nat.min_eq_left (by omega)] at hx
      subst hx
      have hlater := Later.cell hcell
      go_wp2
      refine wp_region_later_lit (by kernel_rfl) (by kernel_rfl) ?_; try simp only [List.append_eq, List.cons_append, List.nil_append]
      repeat (go_big_quiet_step (((go_at_call 32; with_reducible exact Calls.later (markText_any _ _ (by omega))))))
      (refine wpQuiet_nil ?_; intro _ hw'; obtain ⟨⟨w9, hb9⟩, hw''⟩ := hw'; subst hw''; try dsimp only)
      go_wp2
      go_roundw
      case rel => exact ⟨m + 1, by omega, by go_num, by go_num, hb.trans (hb9.mono hb.size)⟩
      case measure => simp [intOf]; omega
    · obtain rfl : m = xs.length := by omega
      go_wp2
      go_ret
      exact ⟨rfl, hb⟩
end Go.Proofs.YteofafgleojmhaaDoor
