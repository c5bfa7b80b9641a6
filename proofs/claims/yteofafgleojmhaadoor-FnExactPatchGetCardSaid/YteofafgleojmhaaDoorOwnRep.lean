/- A row of structs in blocks of its own, the blocks listed: a struct behind it, one cell of one struct replaced. -/
import Derived.Test.YteofafgleojmhaaDoorRepL
import Derived.Test.YteofafgleojmhaaDoorOnly
namespace Go.Proofs.YteofafgleojmhaaDoor
open Go.RowKit

theorem Only.of_grown {w w' : World} {row : Option Nat} {F : List Nat} (h : w.grownBy w' row) (hF : ∀ g, row = some g → g ∈ F) : Only F w w' :=
  ⟨h.os, h.tape, h.output, h.size, fun k hk hn => h.block k hk (fun e => hn (hF k e.symm))⟩
theorem ownsRow_zero {w : World} {base e z n : Nat} {v : Value} {us : List Value} (h : w.ownsRow base e z v n us) : w.ownsRow 0 e z v n us := by
  refine ⟨h.1, ?_⟩
  rcases h.2 with h2 | ⟨g, cap, cur, r1, _, r3⟩
  · exact .inl h2
  · exact .inr ⟨g, cap, cur, r1, Nat.zero_le _, r3⟩
/-- A row with a bound below: the least of it is what the blocks say. -/
theorem ownsRow_at {w : World} {base e z n : Nat} {v : Value} {us : List Value} (h : w.ownsRow 0 e z v n us) (hb : ∀ g, v.ownBlock = some g → base ≤ g) : w.ownsRow base e z v n us := by
  refine ⟨h.1, ?_⟩
  rcases h.2 with h2 | ⟨g, cap, cur, rfl, _, r3⟩
  · exact .inl h2
  · exact .inr ⟨g, cap, cur, rfl, hb g rfl, r3⟩
/-- A row of its own has grown by cells that own their blocks. -/
theorem Own.grew {w w' : World} {e z n' : Nat} {ps qs : List PV} {us news : List Value} {v v' : Value} {G F' : List Nat} (ho : Owns w ps us G) (hnd : (v.ownBlock.toList ++ G).Nodup) (hlt : ∀ k ∈ v.ownBlock.toList ++ G, k < w.heap.size)
    (hnew : Owns w qs news F') (hn' : F'.Nodup) (hdis : ∀ k ∈ F', k ∉ v.ownBlock.toList ++ G) (hlt' : ∀ k ∈ F', k < w.heap.size) (h' : w'.ownsRow 0 e z v' n' (us ++ news)) (hg : w.grownBy w' v.ownBlock)
    (hblk : v'.ownBlock = v.ownBlock ∨ v'.ownBlock = some w.heap.size) :
    Own w' (.sl e z (ps ++ qs)) v' (v'.ownBlock.toList ++ (G ++ F')) ∧ (v'.ownBlock.toList ++ (G ++ F')).Nodup ∧ ∀ k ∈ v'.ownBlock.toList ++ (G ++ F'), k ∈ v.ownBlock.toList ++ G ∨ k ∈ F' ∨ k = w.heap.size := by
  have hG : ∀ k ∈ G, k < w.heap.size ∧ v.ownBlock ≠ some k := fun k hk => ⟨hlt k (List.mem_append_right _ hk), fun e => (List.nodup_append.1 hnd).2.2 k (by simp [e]) k hk rfl⟩
  have hF' : ∀ k ∈ F', k < w.heap.size ∧ v.ownBlock ≠ some k := fun k hk => ⟨hlt' k hk, fun e => hdis k hk (List.mem_append_left _ (by simp [e]))⟩
  have hall : Owns w' (ps ++ qs) (us ++ news) (G ++ F') :=
    (Owns.same _ _ _ ho fun k hk => hg.block k (hG k hk).1 (fun e => (hG k hk).2 e.symm)).append (Owns.same _ _ _ hnew fun k hk => hg.block k (hF' k hk).1 (fun e => (hF' k hk).2 e.symm))
  refine ⟨⟨n', us ++ news, G ++ F', h', rfl, hall⟩, List.nodup_append.2 ⟨by cases v'.ownBlock <;> simp, List.nodup_append.2 ⟨(List.nodup_append.1 hnd).2.1, hn', fun a ha b hb' e => ?_⟩, fun a ha b hb' e => ?_⟩, fun k m => ?_⟩
  · subst e; exact hdis a hb' (List.mem_append_right _ ha)
  · subst e
    have ha' : v'.ownBlock = some a := by simpa using ha
    rcases List.mem_append.1 hb' with m | m
    · rcases hblk with e | e
      · exact (hG a m).2 (e ▸ ha')
      · rw [e] at ha'; have := (hG a m).1; simp at ha'; omega
    · rcases hblk with e | e
      · exact (hF' a m).2 (e ▸ ha')
      · rw [e] at ha'; have := (hF' a m).1; simp at ha'; omega
  · rcases List.mem_append.1 m with m | m
    · have hm : v'.ownBlock = some k := by simpa using m
      rcases hblk with e | e
      · exact .inl (List.mem_append_left _ (by rw [← e, hm]; simp))
      · rw [e] at hm; simp at hm; exact .inr (.inr hm.symm)
    rcases List.mem_append.1 m with m | m
    · exact .inl (List.mem_append_right _ m)
    · exact .inr (.inl m)
/-- One cell of one struct of a row of its own, a row itself, has been replaced by another row: the first one grown, or a new one. -/
theorem Own.replaced {w w5 : World} {α : Type} {f : α → List PV} {e z e1 z1 n c g j i m5 : Nat} (hf : ∀ x, (f x).length = z) {ys : List α} {y y' : α} {us : List Value} {G : List Nat} {p1' : PV} {p1 : List PV} {v1 v5 : Value} {us5 : List Value}
    (hrow : w.ownsRow 0 e z (.slice (some ⟨g, 0, none⟩) n c) n us) (ho : Owns w (ys.flatMap f) us G) (hnd : ((Value.slice (some ⟨g, 0, none⟩) n c).ownBlock.toList ++ G).Nodup) (hlt : ∀ k ∈ G, k < w.heap.size)
    (hy : ys[i]? = some y) (hj : j < z) (hp : (f y)[j]? = some p1') (hv1 : us[i * z + j]? = some v1)
    (hown1 : ∀ F1, Own w p1' v1 F1 → F1 = v1.ownBlock.toList)
    (hy' : f y' = (f y).set j (.sl e1 z1 p1)) (h5 : w5.ownsRow 0 e1 z1 v5 m5 us5) (ho5 : ∀ w : World, Owns w p1 us5 []) (hg5 : w.grownBy w5 v1.ownBlock) (hblk : v5.ownBlock = v1.ownBlock ∨ v5.ownBlock = some w.heap.size) :
    ∃ F', Own (w5.setCell ⟨g, i * z + j, none⟩ v5) (.sl e z ((ys.set i y').flatMap f)) (.slice (some ⟨g, 0, none⟩) n c) F' ∧ F'.Nodup ∧ (∀ k ∈ F', k ∈ (Value.slice (some ⟨g, 0, none⟩) n c).ownBlock.toList ++ G ∨ k = w.heap.size) ∧
      Only ((Value.slice (some ⟨g, 0, none⟩) n c).ownBlock.toList ++ G) w (w5.setCell ⟨g, i * z + j, none⟩ v5) := by
  have hpj : (ys.flatMap f)[i * z + j]? = some p1' := by rw [flatMap_at hf ys i j hj, hy]; exact hp
  obtain ⟨u, Fa, F1, Fb, hu, hF, hou, hset⟩ := Owns.at ho hpj
  obtain rfl : v1 = u := Option.some.inj (hv1.symm.trans hu)
  obtain rfl := hown1 F1 hou
  subst hF
  have hnd' : (g :: (Fa ++ (v1.ownBlock.toList ++ Fb))).Nodup := hnd
  obtain ⟨hgG, hGn⟩ := List.nodup_cons.1 hnd'
  have hglt : g < w.heap.size := (hrow.lt g rfl).2
  have hg1 : v1.ownBlock ≠ some g := fun e => hgG (List.mem_append_right _ (List.mem_append_left _ (by rw [e]; simp)))
  have hrow5 := hrow.kept hg5 (.inr (fun e => hg1 e.symm))
  have hst := hrow5.stored (i * z + j) v5
  have hmid := nodup_mid hGn
  have hsz := hg5.size
  have hkeep : ∀ k ∈ Fa ++ Fb, (w5.setCell ⟨g, i * z + j, none⟩ v5).heap[k]? = w.heap[k]? := fun k hk => by
    have hkG : k ∈ Fa ++ (v1.ownBlock.toList ++ Fb) := by rcases List.mem_append.1 hk with m | m <;> simp [m]
    have hkl := hlt k hkG
    rw [hst.2.block k (by omega) (fun e => hgG (by have : k = g := by simpa using e
                                                   rw [← this]; exact hkG))]
    exact hg5.block k hkl (fun e => hmid.2 k hk (by rw [← e]; simp))
  have hv5g : v5.ownBlock ≠ some g := by
    rcases hblk with e | e
    · rw [e]; exact hg1
    · rw [e]; intro h; simp at h; omega
  have h5' : (w5.setCell ⟨g, i * z + j, none⟩ v5).ownsRow 0 e1 z1 v5 m5 us5 := h5.kept hst.2 (.inr hv5g)
  have hnewO : Own (w5.setCell ⟨g, i * z + j, none⟩ v5) (.sl e1 z1 p1) v5 v5.ownBlock.toList := ⟨m5, us5, [], h5', by simp, ho5 _⟩
  have hO := hset _ _ v5 _ hkeep hnewO
  rw [flatMap_set_one hf ys i y hy hj hy'] at hO
  have hin : ∀ k, v5.ownBlock = some k → k ∈ v1.ownBlock.toList ∨ k = w.heap.size := fun k hk => by
    rcases hblk with e | e
    · left; rw [← e, hk]; simp
    · right; rw [e] at hk; simpa using hk.symm
  refine ⟨g :: (Fa ++ (v5.ownBlock.toList ++ Fb)), ⟨n, _, _, hst.1, by simp [Value.ownBlock], hO⟩, List.nodup_cons.2 ⟨fun m => ?_, ?_⟩, fun k m => ?_, ?_⟩
  · rcases List.mem_append.1 m with m | m
    · exact hgG (by simp [m])
    rcases List.mem_append.1 m with m | m
    · exact hv5g (by simpa using m)
    · exact hgG (by simp [m])
  · rw [List.nodup_append, List.nodup_append] at hGn
    obtain ⟨a1, ⟨a2, a3, a4⟩, a5⟩ := hGn
    have hnew : ∀ k, v5.ownBlock = some k → k ∉ Fa ∧ k ∉ Fb := fun k hk => by
      rcases hin k hk with m | m
      · exact ⟨fun h => a5 k h k (List.mem_append_left _ m) rfl, fun h => a4 k m k h rfl⟩
      · refine ⟨fun h => ?_, fun h => ?_⟩
        · have := hlt k (by simp [h]); omega
        · have := hlt k (by simp [h]); omega
    rw [List.nodup_append, List.nodup_append]
    refine ⟨a1, ⟨by cases v5.ownBlock <;> simp, a3, fun a ha b hb e => ?_⟩, fun a ha b hb e => ?_⟩
    · subst e; exact (hnew a (by simpa using ha)).2 hb
    · subst e
      rcases List.mem_append.1 hb with m | m
      · exact (hnew a (by simpa using m)).1 ha
      · exact a5 a ha a (List.mem_append_right _ m) rfl
  · rcases List.mem_cons.1 m with rfl | m
    · left; simp [Value.ownBlock]
    rcases List.mem_append.1 m with m | m
    · left; simp [m]
    rcases List.mem_append.1 m with m | m
    · rcases hin k (by simpa using m) with h | h
      · left; simp at h; simp [h]
      · exact .inr h
    · left; simp [m]
  · refine (Only.of_grown hg5 (fun q hq => ?_)).setCell (by simp [Value.ownBlock]) v5
    simp [hq]
end Go.Proofs.YteofafgleojmhaaDoor
