/- Lists of numbers under way, with their numbers. -/
import Derived.Test.YtlckpgahijlmoaaQ41
import Derived.Laws.OwnMore
/- cover's Orientation and Image: the lists under way. -/
namespace Go.Proofs.Ytlckpgahijlmoaa
open Go.RowKit Go.Shelf Go.Maps

/-- a list of at most 24 numbers in a block of its own -/
def ROW (W : World) (D : Nat) (ob : Option Nat) (x : Value) : Prop :=
  ∃ (a : Option Addr) (d cap l : Nat) (f : Nat → Int), x = .slice a l cap ∧ l ≤ 24 ∧ (0 < l → a = some ⟨d, 0, none⟩ ∧ D < d ∧ d < W.heap.size ∧ ob ≠ some d) ∧ ∀ i, i < l → W.cell? ⟨d, i, none⟩ = some (.int .i64 (f i))
theorem ROW.kept {W W' : World} {D : Nat} {ob row : Option Nat} {x : Value} (h : ROW W D ob x) (hg : W.grownBy W' row) (hr : row = none ∨ row = ob ∨ (∃ r, row = some r ∧ r ≤ D) ∨ ∃ r, row = some r ∧ ∀ d, d < W.heap.size → (∃ i y, W.cell? ⟨d, i, none⟩ = some y) → d ≠ r) : ROW W' D ob x := by
  obtain ⟨a, d, cap, l, f, e, h1, h2, h3⟩ := h
  refine ⟨a, d, cap, l, f, e, h1, fun hp => ?_, fun i hi => hg.cell (h3 i hi) (fun q => ?_)⟩
  · obtain ⟨q1, q2, q3, q4⟩ := h2 hp
    exact ⟨q1, q2, Nat.lt_of_lt_of_le q3 hg.size, q4⟩
  · obtain ⟨q1, q2, q3, q4⟩ := h2 (by omega)
    change some d = row at q
    rcases hr with r | r | ⟨r, r1, r2⟩ | ⟨r, r1, r2⟩
    · rw [r] at q; cases q
    · exact q4 (r.symm.trans q.symm)
    · rw [r1] at q; injection q with q; omega
    · rw [r1] at q; injection q with q; exact r2 d q3 ⟨i, _, h3 i hi⟩ q
theorem ROW.other {W : World} {D : Nat} {ob ob' : Option Nat} {x : Value} (h : ROW W D ob x) (ho : ∀ d, d < W.heap.size → ob ≠ some d → ob' ≠ some d) : ROW W D ob' x := by
  obtain ⟨a, d, cap, l, f, e, h1, h2, h3⟩ := h
  exact ⟨a, d, cap, l, f, e, h1, fun hp => by obtain ⟨q1, q2, q3, q4⟩ := h2 hp; exact ⟨q1, q2, q3, ho d q3 q4⟩, h3⟩
/-- a covering's cells at D, its lists under way -/
structure CO (W0 W : World) (D k : Nat) (S : Int) (uv : Value) (xs : List Value) : Prop where
  own : W.ownsRow (D + 1) 35 1 uv k xs
  row : ∀ (j : Nat) (x : Value), xs[j]? = some x → ROW W D uv.ownBlock x
  d0 : W.cell? ⟨D, 0, none⟩ = some (.int .i64 S)
  d1 : W.cell? ⟨D, 1, none⟩ = some uv
  f1 : W.frozen? ⟨D, 1, none⟩ = false
  bel : Below D W0 W
theorem CO.kept {W0 W W' : World} {D k : Nat} {S : Int} {uv : Value} {xs : List Value} (h : CO W0 W D k S uv xs) (hg : W.grownBy W' none) : CO W0 W' D k S uv xs :=
  ⟨h.own.kept hg (by cases uv.ownBlock <;> simp), fun j x hx => (h.row j x hx).kept hg (.inl rfl), hg.cell h.d0 (by simp), hg.cell h.d1 (by simp), (hg.frozen_far ⟨D, 1, none⟩ (lt_of_cell h.d1) (by simp)).trans h.f1, h.bel.grown hg (by have := lt_of_cell h.d0; simp only at this; omega) (fun r e => by cases e)⟩
theorem CO.ne {W0 W : World} {D k : Nat} {S : Int} {uv : Value} {xs : List Value} (h : CO W0 W D k S uv xs) : some D ≠ uv.ownBlock := fun e => by
  have := (h.own.lt D e.symm).1; omega
theorem CO.push {W0 W W2 w2 : World} {D k g gc : Nat} {S : Int} {uv x : Value} {xs : List Value} (h : CO W0 W D k S uv xs) (hg : W.grownBy W2 none) (hx : ∀ ob, (∀ d, ob = some d → d < W.heap.size ∨ d = W2.heap.size) → ROW W2 D ob x)
    (hown : w2.ownsRow (D + 1) 35 1 (.slice (some ⟨g, 0, none⟩) (k + 1) gc) (k + 1) (xs ++ [x])) (hgrow : W2.grownBy w2 uv.ownBlock) (hat : uv.ownBlock = some g ∨ g = W2.heap.size) :
    CO W0 (w2.setCell ⟨D, 1, none⟩ (.slice (some ⟨g, 0, none⟩) (k + 1) gc)) D (k + 1) S (.slice (some ⟨g, 0, none⟩) (k + 1) gc) (xs ++ [x]) := by
  have h1 := h.kept hg
  have hDl := lt_of_cell h.d0
  simp only at hDl
  have hxl := h.own.1
  have hs2 := hg.size
  have hsc := grownBy_setCell w2 D 1 (.slice (some ⟨g, 0, none⟩) (k + 1) gc)
  have hob : ∀ j, uv.ownBlock = some j → D + 1 ≤ j ∧ j < W.heap.size := fun j hj => h.own.lt j hj
  have hgD : g ≠ D := fun e => by
    rcases hat with q | q
    · have := (hob g q).1; omega
    · omega
  have sh : ∀ y, ROW W2 D uv.ownBlock y → ROW (w2.setCell ⟨D, 1, none⟩ (.slice (some ⟨g, 0, none⟩) (k + 1) gc)) D (Value.slice (some ⟨g, 0, none⟩) (k + 1) gc).ownBlock y := fun y hy => by
    obtain ⟨a, d, cap, l, f, e, p1, p2, p3⟩ := hy
    refine ⟨a, d, cap, l, f, e, p1, fun hp => ?_, fun i hi => ?_⟩
    · obtain ⟨q1, q2, q3, q4⟩ := p2 hp
      refine ⟨q1, q2, by simp only [World.size_setCell]; exact Nat.lt_of_lt_of_le q3 hgrow.size, ?_⟩
      simp only [Value.ownBlock, ne_eq, Option.some.injEq]
      intro q
      rcases hat with z | z
      · subst q; exact q4 z
      · omega
    · obtain ⟨q1, q2, q3, q4⟩ := p2 (by omega)
      exact hsc.cell (hgrow.cell (p3 i hi) (fun q => q4 q.symm)) (by simp; omega)
  refine ⟨hown.kept hsc (.inr (by simp only [Value.ownBlock, ne_eq, Option.some.injEq]; exact hgD)), fun j y hy => ?_, ?_, World.cell?_setCell_same _ _ _ (hgrow.cell h1.d1 h.ne), ?_, ?_⟩
  · rcases Nat.lt_or_ge j xs.length with hj | hj
    · rw [List.getElem?_append_left hj] at hy
      exact sh y (h1.row j y hy)
    · rw [List.getElem?_append_right hj] at hy
      have : y = x := by
        cases hjj : j - xs.length with
        | zero => rw [hjj] at hy; simpa using hy.symm
        | succ m => rw [hjj] at hy; simp at hy
      subst this
      exact sh y (hx uv.ownBlock (fun d hd => .inl (hob d hd).2))
  · exact (World.cell?_setCell_other (a := ⟨D, 1, none⟩) (b := ⟨D, 0, none⟩) _ _ (by simp)).trans (hgrow.cell h1.d0 h.ne)
  · rw [World.frozen?_setCell]; exact (hgrow.frozen_far ⟨D, 1, none⟩ (lt_of_cell h1.d1) h.ne).trans h1.f1
  · exact (h1.bel.grown hgrow (by omega) (fun r e => by have := (hob r e).1; omega)).setCell (by show D ≤ D; omega) _
/-- a list is put in the place of another -/
theorem CO.put {W0 W W2 : World} {D k g gc j : Nat} {S : Int} {x : Value} {xs : List Value} (h : CO W0 W D k S (.slice (some ⟨g, 0, none⟩) k gc) xs) (hg : W.grownBy W2 none) (hx : ROW W2 D (some g) x) :
    CO W0 (W2.setCell ⟨g, j, none⟩ x) D k S (.slice (some ⟨g, 0, none⟩) k gc) (xs.set j x) := by
  have h1 := h.kept hg
  obtain ⟨s1, s2⟩ := h1.own.stored j x
  have hgD := (h.own.lt g rfl).1
  have hne : some D ≠ some g := by simp; omega
  refine ⟨s1, fun i y hy => ?_, s2.cell h1.d0 hne, s2.cell h1.d1 hne, (s2.frozen_far ⟨D, 1, none⟩ (lt_of_cell h1.d1) hne).trans h1.f1, h1.bel.setCell (by show D ≤ g; omega) _⟩
  refine ROW.kept ?_ s2 (.inr (.inl rfl))
  by_cases e : j = i
  · subst e
    have hjl : j < (xs.set j x).length := (List.getElem?_eq_some_iff.1 hy).1
    rw [List.length_set] at hjl
    rw [List.getElem?_set_self hjl] at hy
    injection hy with hy; subst hy; exact hx
  · rw [List.getElem?_set_ne e] at hy
    exact h1.row i y hy
theorem CO.keptR {W0 W W' : World} {D k R : Nat} {S : Int} {uv : Value} {xs : List Value} (h : CO W0 W D k S uv xs) (hD : D < R) (hR : ∀ i y, W.cell? ⟨R, i, none⟩ ≠ some y) (hR2 : uv.ownBlock ≠ some R) (hg : W.grownBy W' (some R)) : CO W0 W' D k S uv xs := by
  have hne : some D ≠ some R := by simp; omega
  exact ⟨h.own.kept hg (.inr hR2), fun j x hx => (h.row j x hx).kept hg (.inr (.inr (.inr ⟨R, rfl, fun d _ ⟨i, y, hy⟩ e => hR i y (by rw [← e]; exact hy)⟩))), hg.cell h.d0 hne, hg.cell h.d1 hne, (hg.frozen_far ⟨D, 1, none⟩ (lt_of_cell h.d1) hne).trans h.f1, h.bel.grown hg (by have := lt_of_cell h.d0; simp only at this; omega) (fun r e => by cases e; omega)⟩
/-- the cell of a list -/
theorem CO.at {W0 W : World} {D k j : Nat} {S : Int} {uv : Value} {xs : List Value} (h : CO W0 W D k S uv xs) (hj : j < k) : ∃ g gc x, uv = .slice (some ⟨g, 0, none⟩) k gc ∧ W.cell? ⟨g, j, none⟩ = some x ∧ W.frozen? ⟨g, j, none⟩ = false ∧ D < g ∧ g < W.heap.size := by
  obtain ⟨g, gc, hv, _⟩ := h.own.form (by omega)
  subst hv
  have hxl := h.own.1
  have := h.own.cellAt j (by omega)
  rw [List.getElem?_eq_getElem (by omega)] at this
  exact ⟨g, gc, _, rfl, this, h.own.frozenAt j, by have := (h.own.lt g rfl).1; omega, (h.own.lt g rfl).2⟩
theorem CO.LLs {W0 W : World} {D k : Nat} {S : Int} {uv : Value} {xs : List Value} (h : CO W0 W D k S uv xs) : ∃ len f, LLs W.heap.size W uv k len f ∧ ∀ j, j < k → len j ≤ 24 := by
  have hxl := h.own.1
  have key : ∀ j, ∃ (p : Nat × (Nat → Int)), j < k → p.1 ≤ 24 ∧ ∃ x, xs[j]? = some x ∧ SI W.heap.size W x p.1 p.2 := fun j => by
    rcases Nat.lt_or_ge j k with hj | hj
    · have hx : xs[j]? = some xs[j] := List.getElem?_eq_getElem (by omega)
      obtain ⟨a, d, cap, l, f, e, h1, h2, h3⟩ := h.row j _ hx
      exact ⟨(l, f), fun _ => ⟨h1, _, hx, a, d, 0, cap, e, fun hp => ⟨(h2 hp).1, (h2 hp).2.2.1⟩, fun i hi => by rw [Nat.zero_add]; exact h3 i hi⟩⟩
    · exact ⟨(0, fun _ => 0), fun h => by omega⟩
  let p := fun j => Classical.choose (key j)
  have hp : ∀ j, j < k → (p j).1 ≤ 24 ∧ ∃ x, xs[j]? = some x ∧ SI W.heap.size W x (p j).1 (p j).2 := fun j => Classical.choose_spec (key j)
  refine ⟨fun j => (p j).1, fun j => (p j).2, ?_, fun j hj => (hp j hj).1⟩
  rcases h.own.2 with ⟨rfl, rfl⟩ | ⟨g, cap, cur, rfl, _, hgg, _⟩
  · exact ⟨none, 0, 0, 0, rfl, fun h => by omega, fun j hj => by omega⟩
  · refine ⟨_, g, 0, cap, rfl, fun _ => ⟨rfl, (Array.getElem?_eq_some_iff.1 hgg).1⟩, fun j hj => ?_⟩
    obtain ⟨_, x, e, hs⟩ := hp j hj
    refine ⟨x, ?_, hs⟩
    have := h.own.cells (g := g) rfl j x e
    rwa [Addr.add_mid] at this
theorem ROW.of_row {W : World} {D d l cap : Nat} {ob : Option Nat} {f : Nat → Int} (h : IntRow W d l f) (hl : l ≤ 24) (hD : D < d) (ho : ob ≠ some d) : ROW W D ob (.slice (some ⟨d, 0, none⟩) l cap) :=
  ⟨_, d, cap, l, f, rfl, hl, fun _ => ⟨rfl, hD, h.lt, ho⟩, fun _i hi => h.cell hi⟩
/-- a range under way holds no cells -/
theorem MapR.noCell {α β : Type} {W : World} {ok : α → Prop} {κ : α → Value} {ν : β → Value} {b r n : Nat} {D : α → Option β} {left : α → Bool} {cnt : Nat} (h : MapR W ok κ ν b r n D left cnt) : ∀ i y, W.cell? ⟨r, i, none⟩ ≠ some y := by
  obtain ⟨es, clock, since, seen, c0, _, _, _, _, _, hr, _⟩ := h
  intro i y
  simp [World.cell?, hr]
theorem MapR.noOwn {α β : Type} {W : World} {ok : α → Prop} {κ : α → Value} {ν : β → Value} {b r n : Nat} {D : α → Option β} {left : α → Bool} {cnt : Nat} (h : MapR W ok κ ν b r n D left cnt) {base size k : Nat} {e : TypeId} {v : Value} {xs : List Value} (ho : W.ownsRow base e size v k xs) : v.ownBlock ≠ some r := by
  intro hv
  obtain ⟨es, clock, since, seen, c0, _, _, _, _, _, hr, _⟩ := h
  rcases ho.2 with ⟨rfl, _⟩ | ⟨g, cap, cur, rfl, _, hg, _⟩
  · cases hv
  · injection hv with hv
    subst hv
    rw [hr] at hg; cases hg
end Go.Proofs.Ytlckpgahijlmoaa
namespace Go.Proofs.Ytlckpgahijlmoaa
open Go.RowKit Go.Shelf Go.Maps

/-- a list of l numbers in a block of its own -/
def ROWx (W : World) (D l : Nat) (f : Nat → Int) (ob : Option Nat) (x : Value) : Prop :=
  ∃ (a : Option Addr) (d cap : Nat), x = .slice a l cap ∧ (0 < l → a = some ⟨d, 0, none⟩ ∧ D < d ∧ d < W.heap.size ∧ ob ≠ some d) ∧ ∀ i, i < l → W.cell? ⟨d, i, none⟩ = some (.int .i64 (f i))
theorem ROWx.kept {W W' : World} {D : Nat} {ob row : Option Nat} {l : Nat} {f : Nat → Int} {x : Value} (h : ROWx W D l f ob x) (hg : W.grownBy W' row) (hr : row = none ∨ row = ob ∨ (∃ r, row = some r ∧ r ≤ D) ∨ ∃ r, row = some r ∧ ∀ d, d < W.heap.size → (∃ i y, W.cell? ⟨d, i, none⟩ = some y) → d ≠ r) : ROWx W' D l f ob x := by
  obtain ⟨a, d, cap, e, h2, h3⟩ := h
  refine ⟨a, d, cap, e, fun hp => ?_, fun i hi => hg.cell (h3 i hi) (fun q => ?_)⟩
  · obtain ⟨q1, q2, q3, q4⟩ := h2 hp
    exact ⟨q1, q2, Nat.lt_of_lt_of_le q3 hg.size, q4⟩
  · obtain ⟨q1, q2, q3, q4⟩ := h2 (by omega)
    change some d = row at q
    rcases hr with r | r | ⟨r, r1, r2⟩ | ⟨r, r1, r2⟩
    · rw [r] at q; cases q
    · exact q4 (r.symm.trans q.symm)
    · rw [r1] at q; injection q with q; omega
    · rw [r1] at q; injection q with q; exact r2 d q3 ⟨i, _, h3 i hi⟩ q
theorem ROWx.other {W : World} {D : Nat} {ob ob' : Option Nat} {l : Nat} {f : Nat → Int} {x : Value} (h : ROWx W D l f ob x) (ho : ∀ d, d < W.heap.size → ob ≠ some d → ob' ≠ some d) : ROWx W D l f ob' x := by
  obtain ⟨a, d, cap, e, h2, h3⟩ := h
  exact ⟨a, d, cap, e, fun hp => by obtain ⟨q1, q2, q3, q4⟩ := h2 hp; exact ⟨q1, q2, q3, ho d q3 q4⟩, h3⟩
/-- a covering's cells at D, its lists under way -/
structure COx (W0 W : World) (D k : Nat) (S : Int) (L : Nat) (F : Nat → Nat → Int) (uv : Value) (xs : List Value) : Prop where
  own : W.ownsRow (D + 1) 35 1 uv k xs
  row : ∀ (j : Nat) (x : Value), xs[j]? = some x → ROWx W D L (F j) uv.ownBlock x
  d0 : W.cell? ⟨D, 0, none⟩ = some (.int .i64 S)
  d1 : W.cell? ⟨D, 1, none⟩ = some uv
  f1 : W.frozen? ⟨D, 1, none⟩ = false
  bel : Below D W0 W
theorem COx.kept {W0 W W' : World} {D k : Nat} {S : Int} {L : Nat} {F : Nat → Nat → Int} {uv : Value} {xs : List Value} (h : COx W0 W D k S L F uv xs) (hg : W.grownBy W' none) : COx W0 W' D k S L F uv xs :=
  ⟨h.own.kept hg (by cases uv.ownBlock <;> simp), fun j x hx => (h.row j x hx).kept hg (.inl rfl), hg.cell h.d0 (by simp), hg.cell h.d1 (by simp), (hg.frozen_far ⟨D, 1, none⟩ (lt_of_cell h.d1) (by simp)).trans h.f1, h.bel.grown hg (by have := lt_of_cell h.d0; simp only at this; omega) (fun r e => by cases e)⟩
theorem COx.ne {W0 W : World} {D k : Nat} {S : Int} {L : Nat} {F : Nat → Nat → Int} {uv : Value} {xs : List Value} (h : COx W0 W D k S L F uv xs) : some D ≠ uv.ownBlock := fun e => by
  have := (h.own.lt D e.symm).1; omega
theorem COx.push {W0 W W2 w2 : World} {D k g gc : Nat} {S : Int} {L : Nat} {F : Nat → Nat → Int} {uv x : Value} {xs : List Value} (h : COx W0 W D k S L F uv xs) (hg : W.grownBy W2 none) (hx : ∀ ob, (∀ d, ob = some d → d < W.heap.size ∨ d = W2.heap.size) → ROWx W2 D L (F k) ob x)
    (hown : w2.ownsRow (D + 1) 35 1 (.slice (some ⟨g, 0, none⟩) (k + 1) gc) (k + 1) (xs ++ [x])) (hgrow : W2.grownBy w2 uv.ownBlock) (hat : uv.ownBlock = some g ∨ g = W2.heap.size) :
    COx W0 (w2.setCell ⟨D, 1, none⟩ (.slice (some ⟨g, 0, none⟩) (k + 1) gc)) D (k + 1) S L F (.slice (some ⟨g, 0, none⟩) (k + 1) gc) (xs ++ [x]) := by
  have h1 := h.kept hg
  have hDl := lt_of_cell h.d0
  simp only at hDl
  have hxl := h.own.1
  have hs2 := hg.size
  have hsc := grownBy_setCell w2 D 1 (.slice (some ⟨g, 0, none⟩) (k + 1) gc)
  have hob : ∀ j, uv.ownBlock = some j → D + 1 ≤ j ∧ j < W.heap.size := fun j hj => h.own.lt j hj
  have hgD : g ≠ D := fun e => by
    rcases hat with q | q
    · have := (hob g q).1; omega
    · omega
  have sh : ∀ f y, ROWx W2 D L f uv.ownBlock y → ROWx (w2.setCell ⟨D, 1, none⟩ (.slice (some ⟨g, 0, none⟩) (k + 1) gc)) D L f (Value.slice (some ⟨g, 0, none⟩) (k + 1) gc).ownBlock y := fun f y hy => by
    obtain ⟨a, d, cap, e, p2, p3⟩ := hy
    refine ⟨a, d, cap, e, fun hp => ?_, fun i hi => ?_⟩
    · obtain ⟨q1, q2, q3, q4⟩ := p2 hp
      refine ⟨q1, q2, by simp only [World.size_setCell]; exact Nat.lt_of_lt_of_le q3 hgrow.size, ?_⟩
      simp only [Value.ownBlock, ne_eq, Option.some.injEq]
      intro q
      rcases hat with z | z
      · subst q; exact q4 z
      · omega
    · obtain ⟨q1, q2, q3, q4⟩ := p2 (by omega)
      exact hsc.cell (hgrow.cell (p3 i hi) (fun q => q4 q.symm)) (by simp; omega)
  refine ⟨hown.kept hsc (.inr (by simp only [Value.ownBlock, ne_eq, Option.some.injEq]; exact hgD)), fun j y hy => ?_, ?_, World.cell?_setCell_same _ _ _ (hgrow.cell h1.d1 h.ne), ?_, ?_⟩
  · rcases Nat.lt_or_ge j xs.length with hj | hj
    · rw [List.getElem?_append_left hj] at hy
      exact sh _ y (h1.row j y hy)
    · rw [List.getElem?_append_right hj] at hy
      obtain ⟨hyx, hjk⟩ : y = x ∧ j = k := by
        cases hjj : j - xs.length with
        | zero => rw [hjj] at hy; exact ⟨by simpa using hy.symm, by omega⟩
        | succ m => rw [hjj] at hy; simp at hy
      subst hyx hjk
      exact sh _ y (hx uv.ownBlock (fun d hd => .inl (hob d hd).2))
  · exact (World.cell?_setCell_other (a := ⟨D, 1, none⟩) (b := ⟨D, 0, none⟩) _ _ (by simp)).trans (hgrow.cell h1.d0 h.ne)
  · rw [World.frozen?_setCell]; exact (hgrow.frozen_far ⟨D, 1, none⟩ (lt_of_cell h1.d1) h.ne).trans h1.f1
  · exact (h1.bel.grown hgrow (by omega) (fun r e => by have := (hob r e).1; omega)).setCell (by show D ≤ D; omega) _
/-- a list is put in the place of another -/
theorem COx.put {W0 W W2 : World} {D k g gc j : Nat} {S : Int} {L : Nat} {F : Nat → Nat → Int} {f : Nat → Int} {x : Value} {xs : List Value} (h : COx W0 W D k S L F (.slice (some ⟨g, 0, none⟩) k gc) xs) (hg : W.grownBy W2 none) (hx : ROWx W2 D L f (some g) x) :
    COx W0 (W2.setCell ⟨g, j, none⟩ x) D k S L (fun i => if i = j then f else F i) (.slice (some ⟨g, 0, none⟩) k gc) (xs.set j x) := by
  have h1 := h.kept hg
  obtain ⟨s1, s2⟩ := h1.own.stored j x
  have hgD := (h.own.lt g rfl).1
  have hne : some D ≠ some g := by simp; omega
  refine ⟨s1, fun i y hy => ?_, s2.cell h1.d0 hne, s2.cell h1.d1 hne, (s2.frozen_far ⟨D, 1, none⟩ (lt_of_cell h1.d1) hne).trans h1.f1, h1.bel.setCell (by show D ≤ g; omega) _⟩
  refine ROWx.kept ?_ s2 (.inr (.inl rfl))
  by_cases e : j = i
  · subst e
    have hjl : j < (xs.set j x).length := (List.getElem?_eq_some_iff.1 hy).1
    rw [List.length_set] at hjl
    rw [List.getElem?_set_self hjl] at hy
    injection hy with hy; subst hy; rw [if_pos rfl]; exact hx
  · rw [List.getElem?_set_ne e] at hy
    rw [if_neg (fun q => e q.symm)]
    exact h1.row i y hy
theorem COx.keptR {W0 W W' : World} {D k R : Nat} {S : Int} {L : Nat} {F : Nat → Nat → Int} {uv : Value} {xs : List Value} (h : COx W0 W D k S L F uv xs) (hD : D < R) (hR : ∀ i y, W.cell? ⟨R, i, none⟩ ≠ some y) (hR2 : uv.ownBlock ≠ some R) (hg : W.grownBy W' (some R)) : COx W0 W' D k S L F uv xs := by
  have hne : some D ≠ some R := by simp; omega
  exact ⟨h.own.kept hg (.inr hR2), fun j x hx => (h.row j x hx).kept hg (.inr (.inr (.inr ⟨R, rfl, fun d _ ⟨i, y, hy⟩ e => hR i y (by rw [← e]; exact hy)⟩))), hg.cell h.d0 hne, hg.cell h.d1 hne, (hg.frozen_far ⟨D, 1, none⟩ (lt_of_cell h.d1) hne).trans h.f1, h.bel.grown hg (by have := lt_of_cell h.d0; simp only at this; omega) (fun r e => by cases e; omega)⟩
/-- the cell of a list -/
theorem COx.at {W0 W : World} {D k j : Nat} {S : Int} {L : Nat} {F : Nat → Nat → Int} {uv : Value} {xs : List Value} (h : COx W0 W D k S L F uv xs) (hj : j < k) : ∃ g gc x, uv = .slice (some ⟨g, 0, none⟩) k gc ∧ W.cell? ⟨g, j, none⟩ = some x ∧ W.frozen? ⟨g, j, none⟩ = false ∧ D < g ∧ g < W.heap.size := by
  obtain ⟨g, gc, hv, _⟩ := h.own.form (by omega)
  subst hv
  have hxl := h.own.1
  have := h.own.cellAt j (by omega)
  rw [List.getElem?_eq_getElem (by omega)] at this
  exact ⟨g, gc, _, rfl, this, h.own.frozenAt j, by have := (h.own.lt g rfl).1; omega, (h.own.lt g rfl).2⟩
theorem ROWx.of_row {W : World} {D d l cap : Nat} {ob : Option Nat} {f : Nat → Int} (h : IntRow W d l f) (hD : D < d) (ho : ob ≠ some d) : ROWx W D l f ob (.slice (some ⟨d, 0, none⟩) l cap) :=
  ⟨_, d, cap, rfl, fun _ => ⟨rfl, hD, h.lt, ho⟩, fun _i hi => h.cell hi⟩
theorem COx.congr {W0 W : World} {D k : Nat} {S : Int} {L : Nat} {F F' : Nat → Nat → Int} {uv : Value} {xs : List Value} (h : COx W0 W D k S L F uv xs) (e : ∀ j, j < k → ∀ i, i < L → F j i = F' j i) : COx W0 W D k S L F' uv xs := by
  have hxl := h.own.1
  refine ⟨h.own, fun j x hx => ?_, h.d0, h.d1, h.f1, h.bel⟩
  have hj : j < xs.length := (List.getElem?_eq_some_iff.1 hx).1
  obtain ⟨a, d, cap, e1, h2, h3⟩ := h.row j x hx
  exact ⟨a, d, cap, e1, h2, fun i hi => by rw [← e j (by omega) i hi]; exact h3 i hi⟩
theorem COx.LLs {W0 W : World} {D k : Nat} {S : Int} {L : Nat} {F : Nat → Nat → Int} {uv : Value} {xs : List Value} (h : COx W0 W D k S L F uv xs) : LLs W.heap.size W uv k (fun _ => L) F := by
  have hxl := h.own.1
  rcases h.own.2 with ⟨rfl, rfl⟩ | ⟨g, cap, cur, rfl, _, hgg, _⟩
  · exact ⟨none, 0, 0, 0, rfl, fun h => by omega, fun j hj => by omega⟩
  · refine ⟨_, g, 0, cap, rfl, fun _ => ⟨rfl, (Array.getElem?_eq_some_iff.1 hgg).1⟩, fun j hj => ?_⟩
    have hx : xs[j]? = some xs[j] := List.getElem?_eq_getElem (by omega)
    obtain ⟨a, d, cap2, e, h2, h3⟩ := h.row j _ hx
    refine ⟨xs[j], ?_, a, d, 0, cap2, e, fun hp => ⟨(h2 hp).1, (h2 hp).2.2.1⟩, fun i hi => by rw [Nat.zero_add]; exact h3 i hi⟩
    have := h.own.cells (g := g) rfl j _ hx
    rwa [Addr.add_mid] at this
theorem COx.LLn {W0 W : World} {D k : Nat} {S : Int} {L : Nat} {F : Nat → Nat → Int} {uv : Value} {xs : List Value} (h : COx W0 W D k S L F uv xs) : LLn (D + 1) W.heap.size W uv k (fun _ => L) F := by
  have hxl := h.own.1
  rcases h.own.2 with ⟨rfl, rfl⟩ | ⟨g, cap, cur, rfl, hge, hgg, _⟩
  · exact ⟨none, 0, 0, 0, rfl, fun h => by omega, fun j hj => by omega⟩
  · refine ⟨_, g, 0, cap, rfl, fun _ => ⟨rfl, hge, (Array.getElem?_eq_some_iff.1 hgg).1⟩, fun j hj => ?_⟩
    have hx : xs[j]? = some xs[j] := List.getElem?_eq_getElem (by omega)
    obtain ⟨a, d, cap2, e, h2, h3⟩ := h.row j _ hx
    refine ⟨a, d, 0, cap2, ?_, fun hp => ⟨(h2 hp).1, (h2 hp).2.1, (h2 hp).2.2.1⟩, fun i hi => by rw [Nat.zero_add]; exact h3 i hi⟩
    have := h.own.cells (g := g) rfl j _ hx
    rw [Addr.add_mid] at this
    rw [← e]; exact this
end Go.Proofs.Ytlckpgahijlmoaa
