/- The skeleton in memory: lists of rows that grow, and the laws of one more element. No condition. -/
import Derived.Test.YtlckpgahijlmoaaQ17
namespace Go.Proofs.Ytlckpgahijlmoaa
open Go.RowKit Go.Shelf Go.Maps

theorem und49 : Try.prog.underlying 49 = some (.slice 84) := by kernel_rfl
theorem und50 : Try.prog.underlying 50 = some (.slice 162) := by kernel_rfl
theorem und51 : Try.prog.underlying 51 = some (.slice 4) := by kernel_rfl
theorem und52 : Try.prog.underlying 52 = some (.slice 164) := by kernel_rfl
theorem info4 : (Try.prog.info? 4).map (fun i => (i.zero, i.size, i.bytes)) = some (some (.bool false), 1, 1) := by kernel_rfl
theorem info84 : (Try.prog.info? 84).map (fun i => (i.zero, i.size, i.bytes)) = some (some (.agg #[.int .i64 0, .int .i64 0, .int .i64 0, .int .i64 0]), 4, 32) := by kernel_rfl
theorem info162 : (Try.prog.info? 162).map (fun i => (i.zero, i.size, i.bytes)) = some (some (.agg #[.int .i64 0, .int .i64 0, .int .i64 0, .int .i64 0, .int .i64 0, .int .i64 0]), 6, 48) := by kernel_rfl
theorem info164 : (Try.prog.info? 164).map (fun i => (i.zero, i.size, i.bytes)) = some (some (.agg #[.int .i64 0, .int .i64 0, .int .i64 0, .int .i64 0, .bool false, .bool false]), 6, 40) := by kernel_rfl

/-- the first m numbers of a function, as cells -/
def ints (f : Nat → Nat) (m : Nat) : List Value := (List.range m).map fun i => .int .i64 (f i : Int)
theorem ints_add (f : Nat → Nat) (m c : Nat) : ints f (m + c) = ints f m ++ ((List.range c).map fun i => Value.int .i64 (f (m + i) : Int)) := by
  simp [ints, List.range_add, Function.comp_def]
theorem ints_get (f : Nat → Nat) (m i : Nat) (hi : i < m) : (ints f m)[i]? = some (.int .i64 (f i : Int)) := by
  simp [ints, hi]
theorem ints_len (f : Nat → Nat) (m : Nat) : (ints f m).length = m := by simp [ints]

/-- the lists of the skeleton, by the cell in which they lie -/
def okO (o : Nat) : Prop := o = 0 ∨ o = 1 ∨ o = 2 ∨ o = 5
def tyO (o : Nat) : TypeId := if o = 1 then 162 else if o = 5 then 164 else 84
def szO (o : Nat) : Nat := if o = 1 then 6 else if o = 5 then 6 else 4
def updO {α : Type} (q : Nat → α) (o : Nat) (x : α) : Nat → α := fun i => if i = o then x else q i
theorem updO_same {α : Type} (q : Nat → α) (o : Nat) (x : α) : updO q o x o = x := by simp [updO]
theorem updO_other {α : Type} (q : Nat → α) (o i : Nat) (x : α) (h : i ≠ o) : updO q o x i = q i := by simp [updO, h]

structure SK (W : World) (K S dB rB sz : Nat) (q : Nat → Value) (c : Nat → Nat) (xs : Nat → List Value) (rev : Nat → Bool) : Prop where
  cc : ∀ o, okO o → W.cell? ⟨S, o, none⟩ = some (q o)
  c3 : W.cell? ⟨S, 3, none⟩ = some (.slice (some ⟨dB, 0, none⟩) sz sz)
  c4 : W.cell? ⟨S, 4, none⟩ = some (.slice (some ⟨rB, 0, none⟩) sz sz)
  fz : ∀ o, W.frozen? ⟨S, o, none⟩ = false
  own : ∀ o, okO o → W.ownsRow K (tyO o) (szO o) (q o) (c o) (xs o)
  dr : ∃ g : Nat → Int, W.rowIs dB 3 sz (fun i => .int .i64 (g i))
  rr : W.rowIs rB 4 sz (fun i => .bool (rev i))
  ne : ∀ o, okO o → ∀ k, (q o).ownBlock = some k → k ≠ S ∧ k ≠ dB ∧ k ≠ rB ∧ ∀ o', okO o' → o' ≠ o → (q o').ownBlock ≠ some k
  lo : K ≤ S ∧ K ≤ dB ∧ K ≤ rB ∧ S ≠ dB ∧ S ≠ rB ∧ dB ≠ rB

variable {W W' W1 w1 : World} {K S dB rB sz : Nat} {q : Nat → Value} {c : Nat → Nat} {xs : Nat → List Value} {rev : Nat → Bool}
theorem SK.kept (h : SK W K S dB rB sz q c xs rev) (hg : W.grownBy W' none) : SK W' K S dB rB sz q c xs rev := by
  have hS := lt_of_cell h.c3
  exact ⟨fun o ho => hg.cell (h.cc o ho) (by simp), hg.cell h.c3 (by simp), hg.cell h.c4 (by simp), fun o => (hg.frozen_far ⟨S, o, none⟩ hS (by simp)).trans (h.fz o),
    fun o ho => (h.own o ho).kept hg (by cases (q o).ownBlock <;> simp), by obtain ⟨g, hr⟩ := h.dr; exact ⟨g, rowIs_kept hr hg (by simp)⟩, rowIs_kept h.rr hg (by simp), h.ne, h.lo⟩
theorem sc_other {W : World} {O o o' : Nat} {x v : Value} (h : W.cell? ⟨O, o', none⟩ = some x) (hne : o ≠ o') : (W.setCell ⟨O, o, none⟩ v).cell? ⟨O, o', none⟩ = some x := ds_other h hne

/-- one element more -/
theorem SK.push (h : SK W K S dB rB sz q c xs rev) {o m : Nat} (ho : okO o) (hm : m = c o + 1) {ys : List Value} (hga : W.grownBy W1 none) {g cap : Nat} (hown : w1.ownsRow K (tyO o) (szO o) (.slice (some ⟨g, 0, none⟩) m cap) m ys)
    (hgrow : W1.grownBy w1 (q o).ownBlock) (hat : (q o).ownBlock = some g ∨ g = W1.heap.size) :
    SK (w1.setCell ⟨S, o, none⟩ (.slice (some ⟨g, 0, none⟩) m cap)) K S dB rB sz (updO q o (.slice (some ⟨g, 0, none⟩) m cap)) (updO c o m) (updO xs o ys) rev := by
  have h1 := h.kept hga
  have hS : S < W1.heap.size := lt_of_cell h1.c3
  have hSo : ∀ o' k, okO o' → (q o').ownBlock = some k → k < W1.heap.size := fun o' k ho' hk => ((h1.own o' ho').lt k hk).2
  obtain ⟨gd, hd⟩ := h1.dr
  have hdl := hd.lt
  have hrl := h1.rr.lt
  have hneq : ∀ b : Nat, b < W1.heap.size → (∀ k, (q o).ownBlock = some k → k ≠ b) → some b ≠ (q o).ownBlock := fun b _ hk e => hk b e.symm rfl
  have eS : some S ≠ (q o).ownBlock := hneq S hS (fun k hk => (h.ne o ho k hk).1)
  have ed : some dB ≠ (q o).ownBlock := hneq dB hdl (fun k hk => (h.ne o ho k hk).2.1)
  have er : some rB ≠ (q o).ownBlock := hneq rB hrl (fun k hk => (h.ne o ho k hk).2.2.1)
  have hgS : g ≠ S := by
    rcases hat with e | e
    · exact (h.ne o ho g e).1
    · omega
  have hgd : g ≠ dB := by
    rcases hat with e | e
    · exact (h.ne o ho g e).2.1
    · omega
  have hgr : g ≠ rB := by
    rcases hat with e | e
    · exact (h.ne o ho g e).2.2.1
    · omega
  have hsc := grownBy_setCell w1 S o (.slice (some ⟨g, 0, none⟩) m cap)
  obtain ⟨l1, l2, l3, l4, l5, l6⟩ := h.lo
  have o3 : o ≠ 3 := by rcases ho with e | e | e | e <;> omega
  have o4 : o ≠ 4 := by rcases ho with e | e | e | e <;> omega
  refine ⟨fun i hi => ?_, sc_other (hgrow.cell h1.c3 eS) o3, sc_other (hgrow.cell h1.c4 eS) o4, fun i => ?_, fun i hi => ?_, ⟨gd, rowIs_kept (rowIs_kept hd hgrow ed) hsc (by simp; omega)⟩, rowIs_kept (rowIs_kept h1.rr hgrow er) hsc (by simp; omega), fun i hi k hk => ?_, h.lo⟩
  · by_cases e : i = o
    · subst e; rw [updO_same]; exact World.cell?_setCell_same _ _ _ (hgrow.cell (h1.cc i hi) eS)
    · rw [updO_other _ _ _ _ e]; exact sc_other (hgrow.cell (h1.cc i hi) eS) (fun x => e x.symm)
  · rw [World.frozen?_setCell]; exact (hgrow.frozen_far ⟨S, i, none⟩ hS eS).trans (h1.fz i)
  · by_cases e : i = o
    · subst e; simp only [updO_same]; exact hown.kept hsc (.inr (by simp [Value.ownBlock]; exact hgS))
    · simp only [updO_other _ _ _ _ e]
      have h2 : w1.ownsRow K (tyO i) (szO i) (q i) (c i) (xs i) := (h1.own i hi).kept hgrow (by
        cases hq : (q i).ownBlock with
        | none => exact .inl rfl
        | some k => exact .inr (fun z => ((h.ne o ho k z.symm).2.2.2 i hi e) hq))
      exact h2.kept hsc (by
        cases hq : (q i).ownBlock with
        | none => exact .inl rfl
        | some k => exact .inr (by simp; exact (h.ne i hi k hq).1))
  · by_cases e : i = o
    · subst e
      rw [updO_same] at hk
      simp [Value.ownBlock] at hk
      subst hk
      refine ⟨hgS, hgd, hgr, fun o' ho' hne => ?_⟩
      rw [updO_other _ _ _ _ hne]
      intro z
      rcases hat with e | e
      · exact (h.ne i ho g e).2.2.2 o' ho' hne z
      · have := hSo o' g ho' z; omega
    · rw [updO_other _ _ _ _ e] at hk
      obtain ⟨a1, a2, a3, a4⟩ := h.ne i hi k hk
      refine ⟨a1, a2, a3, fun o' ho' hne => ?_⟩
      by_cases e2 : o' = o
      · subst e2
        rw [updO_same]
        simp only [Value.ownBlock, ne_eq, Option.some.injEq]
        intro z
        rcases hat with y | y
        · subst z; exact a4 o' ho' hne y
        · have := hSo i k hi hk; omega
      · rw [updO_other _ _ _ _ e2]; exact a4 o' ho' hne

theorem SK.congr {c' : Nat → Nat} {xs' : Nat → List Value} {rev' : Nat → Bool} (h : SK W K S dB rB sz q c xs rev) (h1 : ∀ o, okO o → c o = c' o) (h2 : ∀ o, okO o → xs o = xs' o) (h3 : ∀ i, rev i = rev' i) : SK W K S dB rB sz q c' xs' rev' :=
  ⟨h.cc, h.c3, h.c4, h.fz, fun o ho => by rw [← h1 o ho, ← h2 o ho]; exact h.own o ho, h.dr, by have := h.rr; exact this.congr (fun i _ => by rw [h3]), h.ne, h.lo⟩
theorem SK.degree (h : SK W K S dB rB sz q c xs rev) (i : Nat) (x : Int) : SK (W.setCell ⟨dB, i, none⟩ (.int .i64 x)) K S dB rB sz q c xs rev := by
  obtain ⟨gd, hd⟩ := h.dr
  have hsc := grownBy_setCell W dB i (.int .i64 x)
  obtain ⟨l1, l2, l3, l4, l5, l6⟩ := h.lo
  refine ⟨fun o ho => hsc.cell (h.cc o ho) (by simp; omega), hsc.cell h.c3 (by simp; omega), hsc.cell h.c4 (by simp; omega), fun o => by rw [World.frozen?_setCell]; exact h.fz o, fun o ho => ?_, ⟨fun j => if j = i then x else gd j, ?_⟩, rowIs_kept h.rr hsc (by simp; omega), h.ne, h.lo⟩
  · refine (h.own o ho).kept hsc ?_
    cases hq : (q o).ownBlock with
    | none => exact .inl rfl
    | some k => exact .inr (by simp; exact (h.ne o ho k hq).2.1)
  · exact (hd.set i _).congr (fun j _ => by by_cases e : j = i <;> simp [e])
theorem SK.reverse (h : SK W K S dB rB sz q c xs rev) (i : Nat) : SK (W.setCell ⟨rB, i, none⟩ (.bool true)) K S dB rB sz q c xs (fun j => if j = i then true else rev j) := by
  obtain ⟨gd, hd⟩ := h.dr
  have hsc := grownBy_setCell W rB i (.bool true)
  obtain ⟨l1, l2, l3, l4, l5, l6⟩ := h.lo
  refine ⟨fun o ho => hsc.cell (h.cc o ho) (by simp; omega), hsc.cell h.c3 (by simp; omega), hsc.cell h.c4 (by simp; omega), fun o => by rw [World.frozen?_setCell]; exact h.fz o, fun o ho => ?_, ⟨gd, rowIs_kept hd hsc (by simp; omega)⟩, ?_, h.ne, h.lo⟩
  · refine (h.own o ho).kept hsc ?_
    cases hq : (q o).ownBlock with
    | none => exact .inl rfl
    | some k => exact .inr (by simp; exact (h.ne o ho k hq).2.2.1)
  · exact (h.rr.set i _).congr (fun j _ => by by_cases e : j = i <;> simp [e])

/-- the numbers of the classes -/
theorem cnt_mono (r : Nat → Nat) {i j : Nat} (h : i ≤ j) : cnt r i ≤ cnt r j := by
  induction j with
  | zero => have : i = 0 := by omega
            subst this; exact Nat.le_refl _
  | succ j ih =>
    by_cases e : i = j + 1
    · subst e; exact Nat.le_refl _
    · have := ih (by omega)
      simp only [cnt]; split <;> omega
theorem cnt_lt (r : Nat → Nat) {i n : Nat} (h1 : r (r i) = r i) (h2 : r i < n) : cnt r (r i) < cnt r n := by
  have := cnt_mono r (show r i + 1 ≤ n by omega)
  simp only [cnt, h1, if_pos] at this
  omega
def vN (G : Gl) (i : Nat) : Nat := cnt (clsAll G).r1 ((clsAll G).r1 i)
def dN (G : Gl) (i : Nat) : Nat := cnt (clsAll G).r2 ((clsAll G).r2 i)
def eN (G : Gl) (i : Nat) : Nat := cnt (clsAll G).r3 ((clsAll G).r3 i)
def fN (G : Gl) (i : Nat) : Nat := cnt (clsAll G).r4 ((clsAll G).r4 i)
def nE (G : Gl) : Nat := cnt (clsAll G).r3 (6 * G.n)
def nV (G : Gl) : Nat := cnt (clsAll G).r1 (4 * G.n)
/-- the edge m = 6 t + k is the same as its reverse -/
def rv1 (G : Gl) (m : Nat) : Bool := dN G (16 * (m / 6) + 4 * pA (m % 6) + pB (m % 6)) == dN G (16 * (m / 6) + 4 * pB (m % 6) + pA (m % 6))
def revK (G : Gl) : Nat → Nat → Bool
  | 0 => fun _ => false
  | m + 1 => if rv1 G m then fun c => if c = eN G m then true else revK G m c else revK G m
/-- the rows' cells -/
def rows (G : Gl) (t _l : Nat) (o : Nat) : List Value := if o = 0 then ints (vN G) (4 * t) else if o = 1 then ints (eN G) (6 * t) else ints (fN G) (4 * t)

/-- the skeleton, as a value -/
structure SkR (W : World) (B : Nat) (sv : Value) (G : Gl) : Prop where
  ex : ∃ vv ev tv lv dB rB xs, sv = .agg #[vv, ev, tv, .slice (some ⟨dB, 0, none⟩) (nE G) (nE G), .slice (some ⟨rB, 0, none⟩) (nE G) (nE G), lv] ∧
    W.ownsRow B 84 4 vv G.n (ints (vN G) (4 * G.n)) ∧ W.ownsRow B 162 6 ev G.n (ints (eN G) (6 * G.n)) ∧ W.ownsRow B 84 4 tv G.n (ints (fN G) (4 * G.n)) ∧ W.ownsRow B 164 6 lv (nV G) xs ∧
    (∃ g : Nat → Int, W.rowIs dB 3 (nE G) (fun i => .int .i64 (g i))) ∧ W.rowIs rB 4 (nE G) (fun i => .bool (revK G (6 * G.n) i)) ∧ B ≤ dB ∧ B ≤ rB
end Go.Proofs.Ytlckpgahijlmoaa
