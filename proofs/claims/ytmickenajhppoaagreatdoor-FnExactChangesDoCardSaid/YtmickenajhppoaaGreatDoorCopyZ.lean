import Derived.Test.YtmickenajhppoaaGreatDoorZ10
import Derived.Laws.CopyOwn
import Derived.Lib.AppendZerosOnto
/- Laws of no program: copy between rows whose elements have z cells; append of a made slice to a row. -/
namespace Go.Proofs.YtmickenajhppoaaGreatDoor
open Go.RowKit

theorem run_copy_rowz {P : Program} (z : Nat) (w : World) (dT sT ty elem : TypeId) (g o dLen dCap : Nat) (a : Addr) (sLen sCap : Nat) (cur : Array Value) (t : TypeId) (cs : List Value)
    (hu : P.underlying dT = some (.slice elem)) (hs : (P.info? elem).map (·.size) = some z)
    (hg : w.heap[g]? = some (.cells cur t (0, 0))) (hn : cs.length = Nat.min sLen dLen * z)
    (hsrc : ∀ j v, cs[j]? = some v → w.cell? (a.add j) = some v) (hfit : o + cs.length ≤ cur.size) (h1 : ∀ v ∈ cs, v.oneCell' = true) :
    (Builtin.copy_ #[dT, sT] ty #[.slice (some ⟨g, o, none⟩) dLen dCap, .slice (some a) sLen sCap]).run P w =
      .ok (goInt (Nat.min sLen dLen)) (w.setRow g (cur.toList.take o ++ cs ++ cur.toList.drop (o + cs.length)).toArray) := by
  have hl := run_loadCells_list (P := P) w a cs hsrc
  have hst := run_storeCells_at P g o t cs 0 cur w hg (by simpa using hfit) h1
  cases hq : P.info? elem with
  | none => simp [hq] at hs
  | some i =>
    have hi : i.size = z := by simpa [hq] using hs
    simp [Builtin.copy_, run_underlying hu, Builtin.lenOf, Builtin.firstCells, sizeOf, typeInfo, hq, hi, ← hn, hl, hst]

/-- What a copy into row g leaves. -/
def PutRow (w w' : World) (g : Nat) (cs : List Value) (t : TypeId) : Prop := w'.heap[g]? = some (.cells cs.toArray t (0, 0)) ∧ w.grownBy w' (some g) ∧ w'.heap.size = w.heap.size
theorem putRow_setRow {w : World} {g : Nat} {cur : Array Value} {t : TypeId} {cs : List Value} (hg : w.heap[g]? = some (.cells cur t (0, 0))) : PutRow w (w.setRow g cs.toArray) g cs t := by
  refine ⟨setRow_heap w g _ _ t _ hg, ⟨rfl, rfl, rfl, by simp [World.setRow], fun k hk hne => setRow_other w g k _ (fun e => hne (by rw [e]))⟩, by simp [World.setRow]⟩

theorem wpList_copy_z {P : Program} {w : World} {ops : Array Oper} {rest : List Oper} {o : Oper} {a : Act} {Q : Exit → Act → World → Prop} (hgd : o.guard = none) (d s : Operand) (dT sT : TypeId)
    (ho : o.op = .call { callee := .builtin .copy, args := #[d, s], argTypes := #[dT, sT] }) (elem : TypeId) (hu : P.underlying dT = some (.slice elem)) (z : Nat) (hsz : (P.info? elem).map (·.size) = some z)
    (g off dLen dCap : Nat) (ad : Addr) (sLen sCap : Nat) (hd : a.eval d = .slice (some ⟨g, off, none⟩) dLen dCap) (hs : a.eval s = .slice (some ad) sLen sCap)
    (cur : List Value) (t : TypeId) (hg : w.heap[g]? = some (.cells cur.toArray t (0, 0))) (cs : List Value) (hn : cs.length = Nat.min sLen dLen * z)
    (hsrc : ∀ j v, cs[j]? = some v → w.cell? (ad.add j) = some v) (hfit : off + cs.length ≤ cur.length) (h1 : ∀ v ∈ cs, v.oneCell' = true)
    (h : ∀ w', PutRow w w' g (splice cur off cs) t → wpList P ops Q rest (a.put o.dst (goInt (Nat.min sLen dLen))) w') : wpList P ops Q (o :: rest) a w := by
  refine wpList_plain hgd fun K hK => ?_
  have hrun := run_copy_rowz (P := P) z w dT sT o.type elem g off dLen dCap ad sLen sCap cur.toArray t cs hu hsz hg hn hsrc (by simpa using hfit) h1
  unfold Oper.wp
  simp only [execOp, ho, resolve, invoke, builtin, Sem.run_bind, Sem.run_pure, Result.andThen_ok, List.map_toArray, List.map_cons, List.map_nil, hd, hs, hrun]
  refine hK _ _ (h _ ?_)
  have := putRow_setRow (cs := splice cur off cs) hg
  simpa [splice] using this

theorem step_copy_z {P : Program} {ops : Array Oper} {o : Oper} {a : Act} {w : World} {K : Act → World → Prop} {Q : Exit → Act → World → Prop} {E : Prop} (hgd : o.guard = none) (d s : Operand) (dT sT : TypeId)
    (ho : o.op = .call { callee := .builtin .copy, args := #[d, s], argTypes := #[dT, sT] }) (elem : TypeId) (hu : P.underlying dT = some (.slice elem)) (z : Nat) (hsz : (P.info? elem).map (·.size) = some z)
    (g off dLen dCap : Nat) (ad : Addr) (sLen sCap : Nat) (hd : a.eval d = .slice (some ⟨g, off, none⟩) dLen dCap) (hs : a.eval s = .slice (some ad) sLen sCap)
    (cur : List Value) (t : TypeId) (hg : w.heap[g]? = some (.cells cur.toArray t (0, 0))) (cs : List Value) (hn : cs.length = Nat.min sLen dLen * z)
    (hsrc : ∀ j v, cs[j]? = some v → w.cell? (ad.add j) = some v) (hfit : off + cs.length ≤ cur.length) (h1 : ∀ v ∈ cs, v.oneCell' = true)
    (h : ∀ w', PutRow w w' g (splice cur off cs) t → K (a.put o.dst (goInt (Nat.min sLen dLen))) w') :
    if Region.wanted o (yielded ops a.tmps) = true then Oper.wp P o a w K Q else E := by
  have hw : Region.wanted o (yielded ops a.tmps) = true := by simp [Region.wanted, hgd]
  rw [if_pos hw]
  have hrun := run_copy_rowz (P := P) z w dT sT o.type elem g off dLen dCap ad sLen sCap cur.toArray t cs hu hsz hg hn hsrc (by simpa using hfit) h1
  unfold Oper.wp
  simp only [execOp, ho, resolve, invoke, builtin, Sem.run_bind, Sem.run_pure, Result.andThen_ok, List.map_toArray, List.map_cons, List.map_nil, hd, hs, hrun]
  refine h _ ?_
  have := putRow_setRow (cs := splice cur off cs) hg
  simpa [splice] using this

theorem hl_new' (w : World) (o : Obj) : (w.alloc o).heap[w.heap.size]? = some o := by show (w.heap.push o)[w.heap.size]? = some o; simp
/-- append(s[:i], make(S, k)...) where there is no room. -/
theorem run_append_make {P : Program} (w : World) (t tn e : TypeId) (i0 : TypeInfo) (zv : Value) (z : Nat) (ht : P.underlying t = some (.slice e)) (htn : P.underlying tn = some (.int .i64)) (hi : P.info? e = some i0) (hz : i0.zero = some zv) (hzs : i0.size = z) (hzc : zv.cells.size = z) (hz0 : 0 < z)
    (g i c k : Nat) (cur : Array Value) (tt : TypeId) (fr : Nat × Nat) (hg : w.heap[g]? = some (.cells cur tt fr)) (hl : i * z ≤ cur.size) (hk : 0 < k) (hroom : c < i + k) (hsmall : (i + k) * i0.bytes ≤ 140737488355328) (hsm2 : i + k ≤ 1000001) :
    ∃ (W1 : World) (R : List Value) (G : Nat), (∀ ty, (Builtin.append_ #[t, tn] ty #[.slice (some ⟨g, 0, none⟩) i c, .int .i64 (k : Int)]).run P w = .ok (.slice (some ⟨w.heap.size, 0, none⟩) (i + k) G) W1) ∧
      W1.heap[w.heap.size]? = some (.cells R.toArray e (0, 0)) ∧ R.length = G * z ∧ R.take (i * z) = cur.toList.take (i * z) ∧ i + k ≤ G ∧ G ≤ maxLen ∧ w.grownBy W1 none ∧ W1.heap.size = w.heap.size + 1 := by
  have hcell : ∀ j v, (cur.toList.take (i * z))[j]? = some v → w.drew.cell? ((⟨g, 0, none⟩ : Addr).add j) = some v := fun j v hj => by
    rw [Addr.add_lit, Nat.zero_add]
    rw [List.getElem?_take] at hj
    split at hj
    · have : w.heap[g]? = some (.cells cur tt fr) := hg
      simp only [World.cell?, World.drew]
      rw [this]
      simpa using hj
    · cases hj
  have hold : (Builtin.firstCells i0.size i (.slice (some ⟨g, 0, none⟩) i c)).run P w.drew = .ok (cur.toList.take (i * z)).toArray w.drew := by
    rw [hzs]
    exact run_firstCells_some w.drew z i ⟨g, 0, none⟩ i c (cur.toList.take (i * z)) (by rw [List.length_take]; simp; omega) hcell
  have hmul : k * i0.bytes ≤ (i + k) * i0.bytes := Nat.mul_le_mul_right _ (by omega)
  refine ⟨w.drew.alloc (.cells ((cur.toList.take (i * z)).toArray ++ Builtin.zeroCells zv.cells k ++ Builtin.zeroCells zv.cells (grownCap w (i + k) c e - (i + k))) e), (cur.toList.take (i * z)) ++ (Builtin.zeroCells zv.cells k ++ Builtin.zeroCells zv.cells (grownCap w (i + k) c e - (i + k))).toList, grownCap w (i + k) c e, fun ty => ?_, ?_, ?_, ?_, grownCap_ge w _ _ _, grownCap_le_maxLen w (i + k) c e (by unfold maxLen; omega), ?_, ?_⟩
  · exact Lib.run_append_grow_zeros w t tn ty e i0 zv .i64 .i64 ht htn hi hz (some ⟨g, 0, none⟩) i c (cur.toList.take (i * z)) hold k hk (by omega) hroom (by omega) (by omega) (growslice_fits hroom hsmall)
  · have := hl_new' w.drew (.cells ((cur.toList.take (i * z)).toArray ++ Builtin.zeroCells zv.cells k ++ Builtin.zeroCells zv.cells (grownCap w (i + k) c e - (i + k))) e)
    rw [show w.drew.heap.size = w.heap.size from rfl] at this
    rw [this]
    simp
  · have hge := grownCap_ge w (i + k) c e
    simp [Builtin.zeroCells, hzc]
    rw [Nat.min_eq_left hl]
    rw [← Nat.add_mul, ← Nat.add_mul]
    congr 1
    omega
  · rw [List.take_left' (by simp; omega)]
  · exact ⟨rfl, rfl, rfl, by simp, fun j hj _ => Below.heap_alloc w.drew _ j hj⟩
  · simp
end Go.Proofs.YtmickenajhppoaaGreatDoor
