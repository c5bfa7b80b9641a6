import Derived.Test.YtgcioajaglljfaaGreatDoorZ12
/- Appends of one element, two more: one that tells which blocks stayed; one whose element takes along a value that stood beside the row. Any program. -/
namespace Go.Proofs.YtgcioajaglljfaaGreatDoor
open Go.RowKit

theorem FreshL.blk {w : World} {lo hi n c : Nat} {A : Option Addr} {e z : Nat} {ps Qs : List PV} {vs : List Value} (h : FreshL w lo hi (.sl e z ps :: Qs) (.slice A n c :: vs)) : ∀ g, (Value.slice A n c).ownBlock = some g → lo ≤ g ∧ g < hi := by
  intro g hg
  obtain ⟨F, ⟨_, _, F1, F2, hu, hF, ⟨n', us, G, hr, hF1, _⟩, _⟩, hn, hb⟩ := h
  obtain ⟨rfl, rfl⟩ := List.cons.inj hu
  subst hF hF1
  exact hb g (List.mem_append_left _ (List.mem_append_left _ (by rw [hg]; simp)))

section
variable {P : Program}
theorem wp_pushK {o : Oper} {a : Act} {w : World} {K : Act → World → Prop} {Q : Exit → Act → World → Prop}
    (s x : Operand) (t : TypeId)
    (ho : o.op = .call { callee := .builtin .append, args := #[s, x], argTypes := #[t, t] })
    (base : Nat) (e : TypeId) (i : TypeInfo) (z : Value) (size bytes : Nat) (ht : P.underlying t = some (.slice e)) (hi : P.info? e = some i) (hz : i.zero = some z)
    (hsize : i.size = size) (hby : i.bytes = bytes) (hzs : z.cells.size = size) (hsz : 0 < size)
    (wo W : World) (ps Qs : List PV) (vs : List Value) (A' : Option Addr) (n' c' : Nat) (hF : FreshL wo base wo.heap.size (.sl e size ps :: Qs) (.slice A' n' c' :: vs)) (hB : base ≤ wo.heap.size) (hb : Below wo.heap.size wo W)
    (vals : List Value) (qs : List PV) (hnew : FreshL W wo.heap.size W.heap.size qs vals) (hlen : vals.length = 1 * size) (hw : w = W.alloc (.cells vals.toArray e))
    (hs : a.eval s = .slice A' n' c') (adr cx : Nat) (hx : a.eval x = .slice (some ⟨adr, 0, none⟩) 1 cx) (hadr : adr = W.heap.size)
    (h1 : ∀ u ∈ vals, u.oneCell' = true) (h63 : n' + 1 ≤ maxLen) (hbytes : (n' + 1) * bytes ≤ 140737488355328)
    (h : ∀ A7 c7 w7, FreshL w7 base w7.heap.size (.sl e size (ps ++ qs) :: Qs) (.slice A7 (n' + 1) c7 :: vs) → Below base wo w7 → W.heap.size < w7.heap.size → (∀ q, q < W.heap.size → (Value.slice A' n' c').ownBlock ≠ some q → w7.heap[q]? = W.heap[q]?) →
      (∀ g, (Value.slice A7 (n' + 1) c7).ownBlock = some g → (Value.slice A' n' c').ownBlock = some g ∨ W.heap.size ≤ g) → K (a.put o.dst (.slice A7 (n' + 1) c7)) w7) : o.wp P a w K Q := by
  subst hw hadr
  obtain ⟨F, ⟨_, _, F1, F2, hu, hFe, hO1, hO2⟩, hn, hbd⟩ := hF
  obtain ⟨rfl, rfl⟩ := List.cons.inj hu
  subst hFe
  obtain ⟨us, G, hrow, ho1, hFe⟩ := hO1.row (lo := base) (fun k hk => (hbd k (List.mem_append_left _ hk)).1)
  subst hFe
  have hsW := hb.size
  have hbw : Below wo.heap.size wo (W.alloc (.cells vals.toArray e)) := hb.alloc hsW _
  have hrow' : (W.alloc (.cells vals.toArray e)).ownsRow base e size (.slice A' n' c') n' us :=
    ownsRow_same hrow (fun k hk => hbw.block k (hbd k (List.mem_append_left _ (List.mem_append_left _ hk))).2)
  have hsa : (W.alloc (.cells vals.toArray e)).heap.size = W.heap.size + 1 := by simp
  refine wp_append_src _ s x t ho base e i z size bytes ht hi hz hsize hby hzs hsz _ n' us hs hrow' _ 1 cx vals hx (Src.lit W e vals size 1 hlen) h1 h63 hbytes (by omega) ?_
  intro A7 c7 w7 hown7 hg7 hat7
  have hz7 := hg7.size
  refine h A7 c7 w7 (FreshL.grewHead ho1 hO2 hn hbd hbw (by omega) (fun q hq => Below.heap_alloc W _ q hq) hnew hown7 hg7 hat7 hB) ?_ (by omega) ?_ ?_
  · exact (hbw.mono hB).grown hg7 (by omega) (fun g hg => (hrow.lt g hg).1)
  · intro q h3 h4
    exact (hg7.block q (by omega) (fun e9 => h4 e9.symm)).trans (Below.heap_alloc W _ q h3)
  · intro g hg
    rcases hat7 with e9 | e9
    · exact .inl (e9.symm.trans hg)
    · right
      rw [e9] at hg
      have : (W.alloc (.cells vals.toArray e)).heap.size = g := by simpa using hg
      omega
theorem wpList_pushK {ops : Array Oper} {rest : List Oper} {o : Oper} {a : Act} {w : World} {Q : Exit → Act → World → Prop} (hgd : o.guard = none)
    (s x : Operand) (t : TypeId)
    (ho : o.op = .call { callee := .builtin .append, args := #[s, x], argTypes := #[t, t] })
    (base : Nat) (e : TypeId) (i : TypeInfo) (z : Value) (size bytes : Nat) (ht : P.underlying t = some (.slice e)) (hi : P.info? e = some i) (hz : i.zero = some z)
    (hsize : i.size = size) (hby : i.bytes = bytes) (hzs : z.cells.size = size) (hsz : 0 < size)
    (wo W : World) (ps Qs : List PV) (vs : List Value) (A' : Option Addr) (n' c' : Nat) (hF : FreshL wo base wo.heap.size (.sl e size ps :: Qs) (.slice A' n' c' :: vs)) (hB : base ≤ wo.heap.size) (hb : Below wo.heap.size wo W)
    (vals : List Value) (qs : List PV) (hnew : FreshL W wo.heap.size W.heap.size qs vals) (hlen : vals.length = 1 * size) (hw : w = W.alloc (.cells vals.toArray e))
    (hs : a.eval s = .slice A' n' c') (adr cx : Nat) (hx : a.eval x = .slice (some ⟨adr, 0, none⟩) 1 cx) (hadr : adr = W.heap.size)
    (h1 : ∀ u ∈ vals, u.oneCell' = true) (h63 : n' + 1 ≤ maxLen) (hbytes : (n' + 1) * bytes ≤ 140737488355328)
    (h : ∀ A7 c7 w7, FreshL w7 base w7.heap.size (.sl e size (ps ++ qs) :: Qs) (.slice A7 (n' + 1) c7 :: vs) → Below base wo w7 → W.heap.size < w7.heap.size → (∀ q, q < W.heap.size → (Value.slice A' n' c').ownBlock ≠ some q → w7.heap[q]? = W.heap[q]?) →
      (∀ g, (Value.slice A7 (n' + 1) c7).ownBlock = some g → (Value.slice A' n' c').ownBlock = some g ∨ W.heap.size ≤ g) → wpList P ops Q rest (a.put o.dst (.slice A7 (n' + 1) c7)) w7) :
    wpList P ops Q (o :: rest) a w :=
  wpList_plain hgd fun _ hK => wp_pushK s x t ho base e i z size bytes ht hi hz hsize hby hzs hsz wo W ps Qs vs A' n' c' hF hB hb vals qs hnew hlen hw hs adr cx hx hadr h1 h63 hbytes fun A7 c7 w7 h2 h3 h4 h5 h6 => hK _ _ (h A7 c7 w7 h2 h3 h4 h5 h6)
theorem step_pushK {ops : Array Oper} {o : Oper} {a : Act} {w : World} {K : Act → World → Prop} {Q : Exit → Act → World → Prop} {E : Prop} (hgd : o.guard = none)
    (s x : Operand) (t : TypeId)
    (ho : o.op = .call { callee := .builtin .append, args := #[s, x], argTypes := #[t, t] })
    (base : Nat) (e : TypeId) (i : TypeInfo) (z : Value) (size bytes : Nat) (ht : P.underlying t = some (.slice e)) (hi : P.info? e = some i) (hz : i.zero = some z)
    (hsize : i.size = size) (hby : i.bytes = bytes) (hzs : z.cells.size = size) (hsz : 0 < size)
    (wo W : World) (ps Qs : List PV) (vs : List Value) (A' : Option Addr) (n' c' : Nat) (hF : FreshL wo base wo.heap.size (.sl e size ps :: Qs) (.slice A' n' c' :: vs)) (hB : base ≤ wo.heap.size) (hb : Below wo.heap.size wo W)
    (vals : List Value) (qs : List PV) (hnew : FreshL W wo.heap.size W.heap.size qs vals) (hlen : vals.length = 1 * size) (hw : w = W.alloc (.cells vals.toArray e))
    (hs : a.eval s = .slice A' n' c') (adr cx : Nat) (hx : a.eval x = .slice (some ⟨adr, 0, none⟩) 1 cx) (hadr : adr = W.heap.size)
    (h1 : ∀ u ∈ vals, u.oneCell' = true) (h63 : n' + 1 ≤ maxLen) (hbytes : (n' + 1) * bytes ≤ 140737488355328)
    (h : ∀ A7 c7 w7, FreshL w7 base w7.heap.size (.sl e size (ps ++ qs) :: Qs) (.slice A7 (n' + 1) c7 :: vs) → Below base wo w7 → W.heap.size < w7.heap.size → (∀ q, q < W.heap.size → (Value.slice A' n' c').ownBlock ≠ some q → w7.heap[q]? = W.heap[q]?) →
      (∀ g, (Value.slice A7 (n' + 1) c7).ownBlock = some g → (Value.slice A' n' c').ownBlock = some g ∨ W.heap.size ≤ g) → K (a.put o.dst (.slice A7 (n' + 1) c7)) w7) :
    if Region.wanted o (yielded ops a.tmps) = true then Oper.wp P o a w K Q else E := by
  have hw' : Region.wanted o (yielded ops a.tmps) = true := by simp [Region.wanted, hgd]
  rw [if_pos hw']
  exact wp_pushK s x t ho base e i z size bytes ht hi hz hsize hby hzs hsz wo W ps Qs vs A' n' c' hF hB hb vals qs hnew hlen hw hs adr cx hx hadr h1 h63 hbytes h

/-- The element takes along the value that stood behind the row in the list. -/
theorem wp_pushTake {o : Oper} {a : Act} {w : World} {K : Act → World → Prop} {Q : Exit → Act → World → Prop} (s x : Operand) (t : TypeId)
    (ho : o.op = .call { callee := .builtin .append, args := #[s, x], argTypes := #[t, t] })
    (base : Nat) (e : TypeId) (i : TypeInfo) (z : Value) (size bytes : Nat) (ht : P.underlying t = some (.slice e)) (hi : P.info? e = some i) (hz : i.zero = some z)
    (hsize : i.size = size) (hby : i.bytes = bytes) (hzs : z.cells.size = size) (hsz : 0 < size)
    (W : World) (ps Qs : List PV) (p : PV) (u : Value) (vs : List Value) (A' : Option Addr) (n' c' : Nat) (hF : FreshL W base W.heap.size (.sl e size ps :: p :: Qs) (.slice A' n' c' :: u :: vs)) (hB : base ≤ W.heap.size)
    (vals : List Value) (qs : List PV) (hnew : ∀ (V : World) (F : List Nat), Own V p u F → Owns V qs vals F) (hlen : vals.length = 1 * size) (hw : w = W.alloc (.cells vals.toArray e))
    (hs : a.eval s = .slice A' n' c') (adr cx : Nat) (hx : a.eval x = .slice (some ⟨adr, 0, none⟩) 1 cx) (hadr : adr = W.heap.size)
    (h1 : ∀ u ∈ vals, u.oneCell' = true) (h63 : n' + 1 ≤ maxLen) (hbytes : (n' + 1) * bytes ≤ 140737488355328)
    (h : ∀ A7 c7 w7, FreshL w7 base w7.heap.size (.sl e size (ps ++ qs) :: Qs) (.slice A7 (n' + 1) c7 :: vs) → Below base W w7 → W.heap.size < w7.heap.size → K (a.put o.dst (.slice A7 (n' + 1) c7)) w7) : o.wp P a w K Q := by
  subst hw hadr
  obtain ⟨F, ⟨_, _, F1, F2, hu, hFe, hO1, hO2⟩, hn, hbd⟩ := hF
  obtain ⟨rfl, rfl⟩ := List.cons.inj hu
  obtain ⟨_, _, F3, F4, hu, hF2, hO3, hO4⟩ := hO2
  obtain ⟨rfl, rfl⟩ := List.cons.inj hu
  subst hFe hF2
  obtain ⟨us, G, hrow, ho1, hFe⟩ := hO1.row (lo := base) (fun k hk => (hbd k (List.mem_append_left _ hk)).1)
  subst hFe
  have hbw : Below W.heap.size W (W.alloc (.cells vals.toArray e)) := (Below.refl _ _).alloc (Nat.le_refl _) _
  have hrow' : (W.alloc (.cells vals.toArray e)).ownsRow base e size (.slice A' n' c') n' us :=
    ownsRow_same hrow (fun k hk => hbw.block k (hbd k (List.mem_append_left _ (List.mem_append_left _ hk))).2)
  have hsa : (W.alloc (.cells vals.toArray e)).heap.size = W.heap.size + 1 := by simp
  refine wp_append_src _ s x t ho base e i z size bytes ht hi hz hsize hby hzs hsz _ n' us hs hrow' _ 1 cx vals hx (Src.lit W e vals size 1 hlen) h1 h63 hbytes (by omega) ?_
  intro A7 c7 w7 hown7 hg7 hat7
  have hz7 := hg7.size
  refine h A7 c7 w7 ?_ ((hbw.mono hB).grown hg7 (by omega) (fun g hg => (hrow.lt g hg).1)) (by omega)
  obtain ⟨hn1, hn2, hn3⟩ := List.nodup_append.1 hn
  obtain ⟨hn4, hn5, hn6⟩ := List.nodup_append.1 hn1
  obtain ⟨hn7, hn8, hn9⟩ := List.nodup_append.1 hn2
  have keep : ∀ q, (q ∈ G ∨ q ∈ F3 ∨ q ∈ F4) → w7.heap[q]? = W.heap[q]? := fun q hq => by
    have hlt : q < W.heap.size := by
      rcases hq with m | m | m
      · exact (hbd q (List.mem_append_left _ (List.mem_append_right _ m))).2
      · exact (hbd q (List.mem_append_right _ (List.mem_append_left _ m))).2
      · exact (hbd q (List.mem_append_right _ (List.mem_append_right _ m))).2
    refine (hg7.block q (by omega) (fun e9 => ?_)).trans (Below.heap_alloc W _ q hlt)
    have hm : q ∈ (Value.slice A' n' c').ownBlock.toList := by rw [← e9]; simp
    rcases hq with m | m | m
    · exact hn6 q hm q m rfl
    · exact hn3 q (List.mem_append_left _ hm) q (List.mem_append_left _ m) rfl
    · exact hn3 q (List.mem_append_left _ hm) q (List.mem_append_right _ m) rfl
  have hap : ∀ g, (Value.slice A7 (n' + 1) c7).ownBlock = some g → g ∉ G ∧ g ∉ F3 ∧ g ∉ F4 := fun g hg => by
    rcases hat7 with e9 | e9
    · rw [e9] at hg
      have hm : g ∈ (Value.slice A' n' c').ownBlock.toList := by rw [hg]; simp
      exact ⟨fun m => hn6 g hm g m rfl, fun m => hn3 g (List.mem_append_left _ hm) g (List.mem_append_left _ m) rfl, fun m => hn3 g (List.mem_append_left _ hm) g (List.mem_append_right _ m) rfl⟩
    · rw [e9] at hg
      have hg9 : (W.alloc (.cells vals.toArray e)).heap.size = g := by simpa using hg
      refine ⟨fun m => ?_, fun m => ?_, fun m => ?_⟩
      · have := (hbd g (List.mem_append_left _ (List.mem_append_right _ m))).2; omega
      · have := (hbd g (List.mem_append_right _ (List.mem_append_left _ m))).2; omega
      · have := (hbd g (List.mem_append_right _ (List.mem_append_right _ m))).2; omega
  have hv7 : ∀ g, (Value.slice A7 (n' + 1) c7).ownBlock = some g → g < w7.heap.size ∧ base ≤ g := fun g hg => by
    have := hown7.lt g hg; exact ⟨this.2, this.1⟩
  refine ⟨((Value.slice A7 (n' + 1) c7).ownBlock.toList ++ (G ++ F3)) ++ F4, ⟨_, _, _, _, rfl, rfl, ⟨n' + 1, us ++ vals, G ++ F3, ⟨hown7.1, ?_⟩, rfl, (Owns.same _ _ _ ho1 (fun q m => keep q (.inl m))).append (hnew w7 F3 (Own.same _ _ _ hO3 (fun q m => keep q (.inr (.inl m)))))⟩, Owns.same _ _ _ hO4 (fun q m => keep q (.inr (.inr m)))⟩, ?_, ?_⟩
  · rcases hown7.2 with h9 | ⟨g, cap, cur, r⟩
    · exact .inl h9
    · exact .inr ⟨g, cap, cur, r.1, Nat.zero_le _, r.2.2⟩
  · refine List.nodup_append.2 ⟨List.nodup_append.2 ⟨by cases (Value.slice A7 (n' + 1) c7).ownBlock <;> simp, List.nodup_append.2 ⟨hn5, hn7, fun a ha b hb9 e9 => ?_⟩, fun a ha b hb9 e9 => ?_⟩, hn8, fun a ha b hb9 e9 => ?_⟩
    · exact hn3 a (List.mem_append_right _ ha) b (List.mem_append_left _ hb9) e9
    · subst e9
      have h9 := hap a (by simpa using ha)
      rcases List.mem_append.1 hb9 with m | m
      · exact h9.1 m
      · exact h9.2.1 m
    · subst e9
      rcases List.mem_append.1 ha with m | m
      · exact (hap a (by simpa using m)).2.2 hb9
      · rcases List.mem_append.1 m with m | m
        · exact hn3 a (List.mem_append_right _ m) a (List.mem_append_right _ hb9) rfl
        · exact hn9 a m a hb9 rfl
  · intro k hk
    rcases List.mem_append.1 hk with m | m
    · rcases List.mem_append.1 m with m | m
      · have := hv7 k (by simpa using m); omega
      · rcases List.mem_append.1 m with m | m
        · have := hbd k (List.mem_append_left _ (List.mem_append_right _ m)); omega
        · have := hbd k (List.mem_append_right _ (List.mem_append_left _ m)); omega
    · have h9 := hbd k (List.mem_append_right _ (List.mem_append_right _ m)); omega
theorem wpList_pushTake {ops : Array Oper} {rest : List Oper} {o : Oper} {a : Act} {w : World} {Q : Exit → Act → World → Prop} (hgd : o.guard = none) (s x : Operand) (t : TypeId)
    (ho : o.op = .call { callee := .builtin .append, args := #[s, x], argTypes := #[t, t] })
    (base : Nat) (e : TypeId) (i : TypeInfo) (z : Value) (size bytes : Nat) (ht : P.underlying t = some (.slice e)) (hi : P.info? e = some i) (hz : i.zero = some z)
    (hsize : i.size = size) (hby : i.bytes = bytes) (hzs : z.cells.size = size) (hsz : 0 < size)
    (W : World) (ps Qs : List PV) (p : PV) (u : Value) (vs : List Value) (A' : Option Addr) (n' c' : Nat) (hF : FreshL W base W.heap.size (.sl e size ps :: p :: Qs) (.slice A' n' c' :: u :: vs)) (hB : base ≤ W.heap.size)
    (vals : List Value) (qs : List PV) (hnew : ∀ (V : World) (F : List Nat), Own V p u F → Owns V qs vals F) (hlen : vals.length = 1 * size) (hw : w = W.alloc (.cells vals.toArray e))
    (hs : a.eval s = .slice A' n' c') (adr cx : Nat) (hx : a.eval x = .slice (some ⟨adr, 0, none⟩) 1 cx) (hadr : adr = W.heap.size)
    (h1 : ∀ u ∈ vals, u.oneCell' = true) (h63 : n' + 1 ≤ maxLen) (hbytes : (n' + 1) * bytes ≤ 140737488355328)
    (h : ∀ A7 c7 w7, FreshL w7 base w7.heap.size (.sl e size (ps ++ qs) :: Qs) (.slice A7 (n' + 1) c7 :: vs) → Below base W w7 → W.heap.size < w7.heap.size → wpList P ops Q rest (a.put o.dst (.slice A7 (n' + 1) c7)) w7) :
    wpList P ops Q (o :: rest) a w :=
  wpList_plain hgd fun _ hK => wp_pushTake s x t ho base e i z size bytes ht hi hz hsize hby hzs hsz W ps Qs p u vs A' n' c' hF hB vals qs hnew hlen hw hs adr cx hx hadr h1 h63 hbytes fun A7 c7 w7 h2 h3 h4 => hK _ _ (h A7 c7 w7 h2 h3 h4)
end
end Go.Proofs.YtgcioajaglljfaaGreatDoor
