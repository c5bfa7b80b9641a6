/- The library's Builder at this program: WriteString walked here (the copy check's last branch is another one than the shelf's), String held against the shelf. -/
import Derived.Test.YteofafgleojmhaaDoorShelf
import Derived.Test.YteofafgleojmhaaDoorRepL
import Derived.Shelf.Strings.BuilderK
import Derived.Lib.Builder
import Derived.Laws.Externs
namespace Go.Proofs.YteofafgleojmhaaDoor
open Go.RowKit

theorem Tryd.extra169 : Builder.Extra Tryd.prog Tryd.lays169_ren where
  sizeBuilder := by kernel_rfl
  liesBuilder := by kernel_rfl
  t5 := Tryd.underlying5
  a5 := Tryd.isAgg5
  z5 := Tryd.sizeOf5
  v5 := Tryd.zeroValue5
  infoByte := by kernel_rfl
  cellsByte := by kernel_rfl
  sizeByte := by kernel_rfl
  neB5 := by decide

/-- The call's own Builder in block b, of the bytes l. -/
def BuildAt (B b : Nat) (l : Str) (w : World) : Prop := Lib.IsBuilderF 53 5 B b (Lib.byteCells l) w
theorem BuildAt.fresh {w : World} {b : Nat} (h : w.heap[b]? = some (.cells #[.pointer none, .slice none 0 0] 53 (0, 0))) (B : Nat) (hB : B ≤ b) : BuildAt B b [] w :=
  .inl ⟨hB, _, h, ⟨by simp [Lib.byteCells], .inl ⟨rfl, rfl⟩⟩, by simp [Value.ownBlock]⟩

set_option maxRecDepth 100000 in
set_option maxHeartbeats 2000000 in
theorem copyCheck_any (B b : Nat) (bs : List Value) (w : World) (h : Lib.IsBuilderF 53 5 B b bs w) :
    Calls Tryd.prog 39 #[.pointer (some ⟨b, 0, none⟩)] w fun e w' => e = .returned (.tuple #[]) ∧ Lib.BuilderAtF 53 5 B b (.pointer (some ⟨b, 0, none⟩)) bs w' ∧ Below B w w' ∧ Lib.OthersKept 5 (some b) w w' := by
  have X := Tryd.extra169
  obtain ⟨j, hj, hjs⟩ := Option.map_eq_some_iff.1 X.sizeBuilder
  have hT : Tryd.prog.underlying 50 = some (.pointer 53) := Tryd.underlying50
  have hU : Tryd.prog.underlying 68 = some .unsafePointer := Tryd.underlying68
  rcases h with h | h
  · have h0 := h.cell0
    have hsh := h.shape
    have hfz := h.frozen0
    have hused := h.used (.pointer (some ⟨b, 0, none⟩))
    have hB := h.1
    clear h
    go_enter Tryd.func39, Tryd.ntmps39
    go_wp2
    rw [Lib.run_to_unsafe w ⟨b, 0, none⟩ hT hU hj (by rw [hjs]; decide) hsh (Nat.zero_lt_succ 1)]
    simp only [Result.andThen]
    rw [Oper.upon_value]
    go_wp2
    rw [run_callFunc_extern Tryd.func49 (by kernel_rfl) (by kernel_rfl) (by kernel_rfl) (e := Extern.AbiNoEscape.same) (by kernel_rfl)]
    rw [Lib.run_noEscape]
    simp only [Result.andThen]
    rw [Oper.upon_value]
    go_wp2
    rw [Lib.run_from_unsafe w ⟨b, 0, none⟩ hU hT hj hsh X.liesBuilder]
    simp only [Result.andThen]
    rw [Oper.upon_value]
    go_wp2
    go_end0
    exact ⟨rfl, hused, (Below.refl B w).setCell (p := ⟨b, 0, none⟩) hB _, (Lib.OthersKept.refl _ _ w).setCell ⟨b, 0, none⟩ rfl _⟩
  · have h0 := h.cell0
    have H := Lib.hid h
    clear h
    go_enter Tryd.func39, Tryd.ntmps39
    go_wp2
    rw [Lib.run_neq_ptr_same w _ hT hj]
    go_wp2
    go_end0
    exact ⟨rfl, H.out, Below.refl _ _, Lib.OthersKept.refl _ _ _⟩

set_option maxRecDepth 100000 in
set_option maxHeartbeats 2000000 in
theorem writeString_any (B b : Nat) (l s : Str) (w : World) (h : BuildAt B b l w) (hlen : l.length + s.length ≤ 1048576) (hBw : B ≤ w.heap.size) :
    Calls Tryd.prog 29 #[.pointer (some ⟨b, 0, none⟩), .string ⟨s.toArray⟩] w fun e w' => e = .returned (.tuple #[.int .i64 s.length, .nilIface]) ∧ BuildAt B b (l ++ s) w' ∧ Below B w w' ∧ Lib.OthersKept 5 (some b) w w' := by
  have X := Tryd.extra169
  obtain ⟨i0, hi, hz0, hz1, hz2⟩ := info_parts X.infoByte
  have hbl : (Lib.byteCells l).length = l.length := Lib.byteCells_length l
  have hss : (⟨s.toArray⟩ : ByteArray).size = s.length := by simp [ByteArray.size]
  have hsz9 : Lib.strCells ⟨s.toArray⟩ = Lib.byteCells s := by simp [Lib.strCells, Lib.byteCells]
  have Hbl := Lib.hid hbl
  have Hss := Lib.hid hss
  clear hbl hss
  go_enter Tryd.func29, Tryd.ntmps29
  go_wp2_with fail
  refine Calls.mono (copyCheck_any B b _ w h) ?_
  rintro e w1 ⟨rfl, h1, hb1, hk1⟩
  obtain ⟨hB, v, hbk, hown, hne⟩ := h1
  have c0 : w1.cell? ⟨b, 0, none⟩ = some (.pointer (some ⟨b, 0, none⟩)) := by rw [Lib.cell_of_heap hbk]; rfl
  have c1 : w1.cell? ⟨b, 1, none⟩ = some v := by rw [Lib.cell_of_heap hbk]; rfl
  go_wp2_with (at_builtin; refine Lib.wpList_append_own_stringF _ rfl _ _ 51 9 rfl B 5 i0 Tryd.underlying51 Tryd.underlying9 hi hz0 hz1 hz2 _ _ _ rfl hown ⟨s.toArray⟩ rfl ?c3 ?c4 ?c5 ?_)
  case c3 => unfold maxLen; rw [Hbl.out, Hss.out]; omega
  case c4 => rw [Hbl.out, Hss.out]; omega
  case c5 => have := hb1.size; omega
  intro v' w2 hown' hgrow _
  have hlt : b < w1.heap.size := (Array.getElem?_eq_some_iff.1 hbk).1
  have hb2 : w2.heap[b]? = some (.cells #[.pointer (some ⟨b, 0, none⟩), v] 53 (0, 0)) := by
    rw [hgrow.block b hlt (fun e => hne e.symm)]
    exact hbk
  have d0 : w2.cell? ⟨b, 0, none⟩ = some (.pointer (some ⟨b, 0, none⟩)) := by rw [Lib.cell_of_heap hb2]; rfl
  have d1 : w2.cell? ⟨b, 1, none⟩ = some v := by rw [Lib.cell_of_heap hb2]; rfl
  have f1 : w2.frozen? ⟨b, 1, none⟩ = false := Lib.frozen_of_heap hb2 1
  obtain ⟨ao, n', cap, rfl⟩ : ∃ ao n' cap, v' = .slice ao n' cap := by
    rcases hown'.2 with ⟨hv, _⟩ | ⟨g, cap, cur, fz, hv, _⟩
    · exact ⟨_, _, _, hv⟩
    · exact ⟨_, _, _, hv⟩
  have Hown' := Lib.hid hown'
  clear hown'
  go_wp2
  go_ret2
  have happ : Lib.byteCells (l ++ s) = Lib.byteCells l ++ Lib.strCells ⟨s.toArray⟩ := by rw [hsz9, Lib.byteCells_append]
  refine ⟨rfl, .inr ?_, ?_, (hk1.grown hgrow (Lib.ownsRowF_kind hown)).setCell ⟨b, 1, none⟩ rfl _⟩
  · rw [happ]
    exact Lib.BuilderAtF.put (T := 53) (e := 5) hB hb2 (bs' := Lib.byteCells l ++ Lib.strCells ⟨s.toArray⟩) (by
      have h9 := Hown'.out
      rw [hsz9, List.length_append, Lib.byteCells_length s]
      first | exact h9 | (rw [hsz9, Hss.out] at h9; exact h9) | (rw [hsz9] at h9; exact h9) | (rw [Hss.out] at h9; exact h9) | (simp [hsz9] at h9; exact h9)) X.neB5
  · exact (hb1.grown hgrow (by have := hb1.size; omega) (fun k hk => (hown.lt k hk).1)).setCell (p := ⟨b, 1, none⟩) hB _

theorem string_any (B b : Nat) (l : Str) (w : World) (h : BuildAt B b l w) (hBw : B ≤ w.heap.size) :
    Calls Tryd.prog 30 #[.pointer (some ⟨b, 0, none⟩)] w fun e w' => e = .returned (.string ⟨l.toArray⟩) ∧ Below B w w' := by
  have hcon := Any.Builder_String_any_k Tryd.lays169 Tryd.extra169 B b l w h hBw
  exact Calls.mono hcon (fun e w' hh => ⟨hh.1, hh.2.2.1⟩)
end Go.Proofs.YteofafgleojmhaaDoor
