/- The classes of triangles, counted: each number is one of them; the places in which they first come. No condition. -/
import Derived.Test.YtlckpgahijlmoaaQ21
/- skel.Of: the skeleton, or the error. -/
namespace Go.Proofs.Ytlckpgahijlmoaa
open Go.RowKit Go.Shelf Go.Maps

/-- no skeleton -/
def skNil : Value := .agg #[.slice none 0 0, .slice none 0 0, .slice none 0 0, .slice none 0 0, .slice none 0 0, .slice none 0 0]
theorem SkR.below {W W' : World} {B : Nat} {sv : Value} {G : Gl} (h : SkR W B sv G) (hg : W.grownBy W' none) : SkR W' B sv G := by
  obtain ⟨vv, ev, tv, lv, dB, rB, xs, e, h1, h2, h3, h4, ⟨g, h5⟩, h6, h7, h8⟩ := h.ex
  have k : ∀ v : Value, v.ownBlock = none ∨ v.ownBlock ≠ none := fun v => by cases v.ownBlock <;> simp
  exact ⟨⟨vv, ev, tv, lv, dB, rB, xs, e, h1.kept hg (k _), h2.kept hg (k _), h3.kept hg (k _), h4.kept hg (k _), ⟨g, rowIs_kept h5 hg (by simp)⟩, rowIs_kept h6 hg (by simp), h7, h8⟩⟩
theorem SkR.mono {W : World} {B B' : Nat} {sv : Value} {G : Gl} (h : SkR W B sv G) (hb : B' ≤ B) : SkR W B' sv G := by
  obtain ⟨vv, ev, tv, lv, dB, rB, xs, e, h1, h2, h3, h4, h5, h6, h7, h8⟩ := h.ex
  exact ⟨⟨vv, ev, tv, lv, dB, rB, xs, e, ownsRow_base h1 hb, ownsRow_base h2 hb, ownsRow_base h3 hb, ownsRow_base h4 hb, h5, h6, by omega, by omega⟩⟩
theorem SkR.other {W : World} {B : Nat} {sv : Value} {G : Gl} (h : SkR W B sv G) {A : Nat} (hA : A < B) (o : Nat) (v : Value) : SkR (W.setCell ⟨A, o, none⟩ v) B sv G := by
  obtain ⟨vv, ev, tv, lv, dB, rB, xs, e, h1, h2, h3, h4, ⟨g, h5⟩, h6, h7, h8⟩ := h.ex
  have hsc := grownBy_setCell W A o v
  have k : ∀ {e : TypeId} {s n : Nat} {u : Value} {ys : List Value}, W.ownsRow B e s u n ys → u.ownBlock = none ∨ u.ownBlock ≠ some A := fun {e s n u ys} hu => by
    cases hq : u.ownBlock with
    | none => exact .inl rfl
    | some j => exact .inr (by have := hu.lt j hq; simp; omega)
  exact ⟨⟨vv, ev, tv, lv, dB, rB, xs, e, h1.kept hsc (k h1), h2.kept hsc (k h2), h3.kept hsc (k h3), h4.kept hsc (k h4), ⟨g, rowIs_kept h5 hsc (by simp; omega)⟩, rowIs_kept h6 hsc (by simp; omega), h7, h8⟩⟩
/-- its six parts, as slices -/
theorem SkR.form {W : World} {B : Nat} {sv : Value} {G : Gl} (h : SkR W B sv G) : ∃ a0 a1 a2 a5 p0 p1 p2 p5 dB rB, sv = .agg #[.slice a0 G.n p0, .slice a1 G.n p1, .slice a2 G.n p2, .slice (some ⟨dB, 0, none⟩) (nE G) (nE G), .slice (some ⟨rB, 0, none⟩) (nE G) (nE G), .slice a5 (nV G) p5] := by
  obtain ⟨vv, ev, tv, lv, dB, rB, xs, e, h1, h2, h3, h4, h5, h6, h7, h8⟩ := h.ex
  obtain ⟨a0, p0, e0⟩ := ownsRow_form h1
  obtain ⟨a1, p1, e1⟩ := ownsRow_form h2
  obtain ⟨a2, p2, e2⟩ := ownsRow_form h3
  obtain ⟨a5, p5, e5⟩ := ownsRow_form h4
  exact ⟨a0, a1, a2, a5, p0, p1, p2, p5, dB, rB, by rw [e, e0, e1, e2, e5]⟩
theorem grown_six (w : World) (A : Nat) (h : w.heap.size ≤ A) {W : World} (hg : w.grownBy W none) (v0 v1 v2 v3 v4 v5 : Value) :
    w.grownBy ((((((W.setCell ⟨A, 0, none⟩ v0).setCell ⟨A, 1, none⟩ v1).setCell ⟨A, 2, none⟩ v2).setCell ⟨A, 3, none⟩ v3).setCell ⟨A, 4, none⟩ v4).setCell ⟨A, 5, none⟩ v5) none :=
  grownBy_fresh (grownBy_fresh (grownBy_fresh (grownBy_fresh (grownBy_fresh (grownBy_fresh hg _ _ h) _ _ h) _ _ h) _ _ h) _ _ h) _ _ h

set_option maxRecDepth 100000 in
set_option maxHeartbeats 1000000 in
theorem Of_walk (G : Gl) (v : Value) (w : World) (hG : GlAt w.heap.size w v G) (hm : G.n ≤ 9223372036854775807) :
    Calls Try.prog 23 #[.agg #[v]] w fun e w' => Below w.heap.size w w' ∧ ((checkB G = false ∧ e = .returned (.tuple #[skNil, .int .i64 7])) ∨ (checkB G = true ∧ ∃ sv, e = .returned (.tuple #[sv, .int .i64 0]) ∧ SkR w' w.heap.size sv G)) := by
  have HG := Lib.hid hG
  obtain ⟨a, b, off, cap, rfl, hga, hc⟩ := hG
  clear hga hc
  have G1 : ∀ o o2, GlAt ((w.alloc o).alloc o2).heap.size ((w.alloc o).alloc o2) (.slice a G.n cap) G := fun o o2 => (HG.out.below (B := w.heap.size) (by (repeat' (first | assumption | exact Below.refl _ _ | refine below_then ?_ (by assumption) | refine below_al ?_ _ | refine below_dr ?_ | refine below_sc ?_ (by simp <;> omega) _)))).mono (by simp; omega)
  go_enter Try.func23, Try.ntmps23
  go_wp2_with fail
  refine (Check_walk G (.slice a G.n cap) _ (G1 _ _) hm).mono ?_
  rintro e W2 ⟨rfl, hb⟩
  have hz := hb.size
  simp only [World.size_alloc] at hz
  have hbw : Below w.heap.size w W2 := by (repeat' (first | assumption | exact Below.refl _ _ | refine below_then ?_ (by assumption) | refine below_al ?_ _ | refine below_dr ?_ | refine below_sc ?_ (by simp <;> omega) _))
  have x0 : W2.cell? ⟨w.heap.size, 0, none⟩ = some (.slice a G.n cap) := (hb.cell (p := ⟨w.heap.size, 0, none⟩) (by simp; omega)).trans (by simp [go_sem])
  have zc : ∀ o, o < 6 → W2.cell? ⟨w.heap.size + 1, o, none⟩ = some (.slice none 0 0) := fun o ho => (hb.cell (p := ⟨w.heap.size + 1, o, none⟩) (by simp)).trans (by
    obtain rfl | rfl | rfl | rfl | rfl | rfl : o = 0 ∨ o = 1 ∨ o = 2 ∨ o = 3 ∨ o = 4 ∨ o = 5 := by omega
    all_goals simp [go_sem])
  have zf : ∀ o, W2.frozen? ⟨w.heap.size + 1, o, none⟩ = false := fun o => (hb.frozen (p := ⟨w.heap.size + 1, o, none⟩) (by simp)).trans (by simp [go_sem])
  have z0 := zc 0 (by omega)
  have z1 := zc 1 (by omega)
  have z2 := zc 2 (by omega)
  have z3 := zc 3 (by omega)
  have z4 := zc 4 (by omega)
  have z5 := zc 5 (by omega)
  have HB := Lib.hid hbw
  have HZ := Lib.hid (And.intro zc zf)
  clear hbw hb G1
  cases hok : checkB G with
  | false =>
    have HOK := Lib.hid hok
    have e7 : checkI G = 7 := by simp [checkI, hok]
    rw [e7]
    clear hok zc e7
    go_wp2
    refine bodyPost_ret (v := .tuple #[skNil, .int .i64 7]) (by simp [results, Try.results23, go_sem, skNil, *]) rfl ⟨six_below HB.out (by omega) _ _ _ _ _ _, .inl ⟨HOK.out, rfl⟩⟩
  | true =>
    have HOK := Lib.hid hok
    have e7 : checkI G = 0 := by simp [checkI, hok]
    rw [e7]
    have G2 : GlAt W2.heap.size W2 (.slice a G.n cap) G := (HG.out.below HB.out).mono (by omega)
    clear hok zc e7 z0 z1 z2 z3 z4 z5 zf
    go_wp2_with fail
    refine (skeleton_walk G (.slice a G.n cap) _ G2 HOK.out).mono ?_
    rintro e W3 ⟨sv, rfl, hs, hb3⟩
    have HS := Lib.hid hs
    obtain ⟨a0, a1, a2, a5, p0, p1, p2, p5, dB, rB, rfl⟩ := hs.form
    have hz3 := hb3.size
    have zc : ∀ o, o < 6 → W3.cell? ⟨w.heap.size + 1, o, none⟩ = some (.slice none 0 0) := fun o ho => (hb3.cell (p := ⟨w.heap.size + 1, o, none⟩) (by show w.heap.size + 1 < _; omega)).trans (HZ.out.1 o ho)
    have zf : ∀ o, W3.frozen? ⟨w.heap.size + 1, o, none⟩ = false := fun o => (hb3.frozen (p := ⟨w.heap.size + 1, o, none⟩) (by show w.heap.size + 1 < _; omega)).trans (HZ.out.2 o)
    have z0 := zc 0 (by omega)
    have z1 := zc 1 (by omega)
    have z2 := zc 2 (by omega)
    have z3 := zc 3 (by omega)
    have z4 := zc 4 (by omega)
    have z5 := zc 5 (by omega)
    have HB3 := Lib.hid (below_then HB.out hb3)
    clear zc hs hb3
    go_wp2
    refine bodyPost_ret (v := .tuple #[.agg #[.slice a0 G.n p0, .slice a1 G.n p1, .slice a2 G.n p2, .slice (some ⟨dB, 0, none⟩) (nE G) (nE G), .slice (some ⟨rB, 0, none⟩) (nE G) (nE G), .slice a5 (nV G) p5], .int .i64 0]) (by simp [results, Try.results23, go_sem, *]) rfl ⟨six_below HB3.out (by omega) _ _ _ _ _ _, .inr ⟨HOK.out, _, rfl, ?_⟩⟩
    exact ((((((HS.out.other (by omega) 0 _).other (by omega) 1 _).other (by omega) 2 _).other (by omega) 3 _).other (by omega) 4 _).other (by omega) 5 _).mono (by omega)
end Go.Proofs.Ytlckpgahijlmoaa
namespace Go.Proofs.Ytlckpgahijlmoaa
open Go.RowKit

def PR (n : Nat) (r : Nat → Nat) : Prop := ∃ u, Reps n u r
theorem PR.join {n : Nat} {r : Nat → Nat} (h : PR n r) {i j : Nat} (hi : i < n) (hj : j < n) : PR n (joinR r i j) := by
  obtain ⟨u, hu⟩ := h
  exact ⟨_, hu.join i j hi hj⟩
def CInv (n : Nat) (s : Cls) : Prop := PR (4 * n) s.r1 ∧ PR (16 * n) s.r2 ∧ PR (6 * n) s.r3 ∧ PR (4 * n) s.r4
theorem lp_inv {α : Type} {f : Nat → α → α} {p : α → Prop} {s : α} (hs : p s) : ∀ {n : Nat}, (∀ i, i < n → ∀ s, p s → p (f i s)) → p (lp f s n) := by
  intro n
  induction n with
  | zero => intro _; exact hs
  | succ n ih => intro h; exact h n (by omega) _ (ih (fun i hi => h i (by omega)))
theorem cls_inv {G : Gl} (h : checkB G = true) : CInv G.n (clsAll G) := by
  have z : ∀ n, PR n id := fun n => ⟨id, fun i _ => Nat.le_refl _, fun _ _ => rfl, fun _ _ _ => rfl⟩
  refine lp_inv (p := CInv G.n) ⟨z _, z _, z _, z _⟩ fun k hk s hs => ?_
  unfold clsF
  split
  · exact hs
  · next ht =>
    obtain ⟨h1, h2, hp⟩ := ok_face h hk ht
    have hinj := ok_inj h hk ht
    have pk := (hp (k % 4) (by omega)).2
    refine lp_inv (p := CInv G.n) ?_ ?_
    · exact ⟨hs.1, hs.2.1, hs.2.2.1, hs.2.2.2.join hk (by omega)⟩
    clear hs
    intro i hi s hs
    unfold clsI
    split
    · exact hs
    · next hik =>
      have pi := (hp i hi).2
      refine lp_inv (p := CInv G.n) ?_ ?_
      · exact ⟨hs.1.join (by omega) (by omega), hs.2⟩
      clear hs
      intro j hj s hs
      unfold clsJ
      split
      · next hjk =>
        have pj := (hp j hj).2
        have e1 := (edN_eq i j hi hj (fun e => hjk.2 e.symm)).2
        have e2 := (edN_eq (G.P k i) (G.P k j) pi pj (hinj i j hi hj (fun e => hjk.2 e.symm))).2
        exact ⟨hs.1, hs.2.1.join (by omega) (by omega), hs.2.2.1.join (by omega) (by omega), hs.2.2.2⟩
      · exact hs

def nF (G : Gl) : Nat := cnt (clsAll G).r4 (4 * G.n)
theorem fN_lt {G : Gl} (h : checkB G = true) {k : Nat} (hk : k < 4 * G.n) : fN G k < nF G := by
  obtain ⟨u, hu⟩ := (cls_inv h).2.2.2
  have := hu.rle k hk
  exact cnt_lt _ (hu.idem k hk) (by omega)
theorem eN_lt' {G : Gl} (h : checkB G = true) {k : Nat} (hk : k < 6 * G.n) : eN G k < nE G := by
  obtain ⟨u, hu⟩ := (cls_inv h).2.2.1
  have := hu.rle k hk
  exact cnt_lt _ (hu.idem k hk) (by omega)
/-- a class's number comes first where as many classes have come before -/
theorem fN_first {G : Gl} (h : checkB G = true) {k : Nat} (hk : k < 4 * G.n) : cnt (clsAll G).r4 (k + 1) = if fN G k = cnt (clsAll G).r4 k then cnt (clsAll G).r4 k + 1 else cnt (clsAll G).r4 k := by
  obtain ⟨u, hu⟩ := (cls_inv h).2.2.2
  have hr := hu.rle k hk
  have hi := hu.idem k hk
  simp only [cnt]
  by_cases e : (clsAll G).r4 k = k
  · rw [if_pos e, if_pos (by unfold fN; rw [e])]
  · rw [if_neg e, if_neg]
    · rfl
    · have := cnt_lt (clsAll G).r4 (i := k) (n := k) hi (by omega)
      unfold fN; omega
/-- the first places of the classes among the first k faces -/
def fD (G : Gl) : Nat → Nat × Nat → Option Nat
  | 0 => fun _ => none
  | k + 1 => if fN G k = cnt (clsAll G).r4 k then fun p => if p = (k / 4, k % 4) then some (fN G k) else fD G k p else fD G k
end Go.Proofs.Ytlckpgahijlmoaa
