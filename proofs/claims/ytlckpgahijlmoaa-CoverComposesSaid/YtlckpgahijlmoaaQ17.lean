/- cover's enter: a gluing without reversed edges, with its classes of triangles and their first places. -/
import Derived.Test.YtlckpgahijlmoaaQ16
/- skel.Of: the skeleton, or the error. -/
namespace Go.Proofs.Ytlckpgahijlmoaa
open Go.RowKit Go.Shelf Go.Maps

/-- no skeleton -/
def skNil : Value := .agg #[.slice none 0 0, .slice none 0 0, .slice none 0 0, .slice none 0 0, .slice none 0 0, .slice none 0 0]
theorem SkR.below {W W' : World} {B : Nat} {sv : Value} {G : Gl} (h : SkR W B sv G) (hg : W.grownBy W' none) : SkR W' B sv G := by
  obtain ⟨vv, ev, tv, lv, dB, rB, xs, e, h1, h2, h3, h4, ⟨g, h5⟩, h6, h7, h8⟩ := h.ex
  have k : ∀ v : Value, v.ownBlock = none ∨ v.ownBlock ≠ none := fun v => by cases v.ownBlock <;> simp
  exact ⟨⟨vv, ev, tv, lv, dB, rB, xs, e, h1.kept hg (k _), h2.kept hg (k _), h3.kept hg (k _), h4.kept hg (k _), ⟨g, rowIs_kept h5 hg (by simp)⟩, rowIs_kept h6 hg (by simp), h7, h8⟩⟩
theorem SkR.mono {W : World} {B B' : Nat} {sv : Value} {G : Gl} (h : SkR W B sv G) (hb : B' ≤ B) : SkR W B' sv G := by
  obtain ⟨vv, ev, tv, lv, dB, rB, xs, e, h1, h2, h3, h4, h5, h6, h7, h8⟩ := h.ex
  exact ⟨⟨vv, ev, tv, lv, dB, rB, xs, e, ownsRow_base h1 hb, ownsRow_base h2 hb, ownsRow_base h3 hb, ownsRow_base h4 hb, h5, h6, by omega, by omega⟩⟩
theorem SkR.other {W : World} {B : Nat} {sv : Value} {G : Gl} (h : SkR W B sv G) {A : Nat} (hA : A < B) (o : Nat) (v : Value) : SkR (W.setCell ⟨A, o, none⟩ v) B sv G := by
  obtain ⟨vv, ev, tv, lv, dB, rB, xs, e, h1, h2, h3, h4, ⟨g, h5⟩, h6, h7, h8⟩ := h.ex
  have hsc := grownBy_setCell W A o v
  have k : ∀ {e : TypeId} {s n : Nat} {u : Value} {ys : List Value}, W.ownsRow B e s u n ys → u.ownBlock = none ∨ u.ownBlock ≠ some A := fun {e s n u ys} hu => by
    cases hq : u.ownBlock with
    | none => exact .inl rfl
    | some j => exact .inr (by have := hu.lt j hq; simp; omega)
  exact ⟨⟨vv, ev, tv, lv, dB, rB, xs, e, h1.kept hsc (k h1), h2.kept hsc (k h2), h3.kept hsc (k h3), h4.kept hsc (k h4), ⟨g, rowIs_kept h5 hsc (by simp; omega)⟩, rowIs_kept h6 hsc (by simp; omega), h7, h8⟩⟩
/-- its six parts, as slices -/
theorem SkR.form {W : World} {B : Nat} {sv : Value} {G : Gl} (h : SkR W B sv G) : ∃ a0 a1 a2 a5 p0 p1 p2 p5 dB rB, sv = .agg #[.slice a0 G.n p0, .slice a1 G.n p1, .slice a2 G.n p2, .slice (some ⟨dB, 0, none⟩) (nE G) (nE G), .slice (some ⟨rB, 0, none⟩) (nE G) (nE G), .slice a5 (nV G) p5] := by
  obtain ⟨vv, ev, tv, lv, dB, rB, xs, e, h1, h2, h3, h4, h5, h6, h7, h8⟩ := h.ex
  obtain ⟨a0, p0, e0⟩ := ownsRow_form h1
  obtain ⟨a1, p1, e1⟩ := ownsRow_form h2
  obtain ⟨a2, p2, e2⟩ := ownsRow_form h3
  obtain ⟨a5, p5, e5⟩ := ownsRow_form h4
  exact ⟨a0, a1, a2, a5, p0, p1, p2, p5, dB, rB, by rw [e, e0, e1, e2, e5]⟩
set_option maxRecDepth 100000 in
set_option maxHeartbeats 1000000 in
theorem Of_walk (G : Gl) (v : Value) (w : World) (hG : GlAt w.heap.size w v G) (hm : G.n ≤ 9223372036854775807) :
    Calls Try.prog 23 #[.agg #[v]] w fun e w' => Below w.heap.size w w' ∧ ((checkB G = false ∧ e = .returned (.tuple #[skNil, .int .i64 7])) ∨ (checkB G = true ∧ ∃ sv, e = .returned (.tuple #[sv, .int .i64 0]) ∧ SkR w' w.heap.size sv G)) := by
  have HG := Lib.hid hG
  obtain ⟨a, b, off, cap, rfl, hga, hc⟩ := hG
  clear hga hc
  have G1 : ∀ o o2, GlAt ((w.alloc o).alloc o2).heap.size ((w.alloc o).alloc o2) (.slice a G.n cap) G := fun o o2 => (HG.out.below (B := w.heap.size) (by (repeat' (first | assumption | exact Below.refl _ _ | refine below_then ?_ (by assumption) | refine below_al ?_ _ | refine below_dr ?_ | refine below_sc ?_ (by simp <;> omega) _)))).mono (by simp; omega)
  go_enter Try.func23, Try.ntmps23
  go_wp2_with fail
  refine (Check_walk G (.slice a G.n cap) _ (G1 _ _) hm).mono ?_
  rintro e W2 ⟨rfl, hb⟩
  have hz := hb.size
  simp only [World.size_alloc] at hz
  have hbw : Below w.heap.size w W2 := by (repeat' (first | assumption | exact Below.refl _ _ | refine below_then ?_ (by assumption) | refine below_al ?_ _ | refine below_dr ?_ | refine below_sc ?_ (by simp <;> omega) _))
  have x0 : W2.cell? ⟨w.heap.size, 0, none⟩ = some (.slice a G.n cap) := (hb.cell (p := ⟨w.heap.size, 0, none⟩) (by simp; omega)).trans (by simp [go_sem])
  have zc : ∀ o, o < 6 → W2.cell? ⟨w.heap.size + 1, o, none⟩ = some (.slice none 0 0) := fun o ho => (hb.cell (p := ⟨w.heap.size + 1, o, none⟩) (by simp)).trans (by
    obtain rfl | rfl | rfl | rfl | rfl | rfl : o = 0 ∨ o = 1 ∨ o = 2 ∨ o = 3 ∨ o = 4 ∨ o = 5 := by omega
    all_goals simp [go_sem])
  have zf : ∀ o, W2.frozen? ⟨w.heap.size + 1, o, none⟩ = false := fun o => (hb.frozen (p := ⟨w.heap.size + 1, o, none⟩) (by simp)).trans (by simp [go_sem])
  have z0 := zc 0 (by omega)
  have z1 := zc 1 (by omega)
  have z2 := zc 2 (by omega)
  have z3 := zc 3 (by omega)
  have z4 := zc 4 (by omega)
  have z5 := zc 5 (by omega)
  have HB := Lib.hid hbw
  have HZ := Lib.hid (And.intro zc zf)
  clear hbw hb G1
  cases hok : checkB G with
  | false =>
    have HOK := Lib.hid hok
    have e7 : checkI G = 7 := by simp [checkI, hok]
    rw [e7]
    clear hok zc e7
    go_wp2
    refine bodyPost_ret (v := .tuple #[skNil, .int .i64 7]) (by simp [results, Try.results23, go_sem, skNil, *]) rfl ⟨six_below HB.out (by omega) _ _ _ _ _ _, .inl ⟨HOK.out, rfl⟩⟩
  | true =>
    have HOK := Lib.hid hok
    have e7 : checkI G = 0 := by simp [checkI, hok]
    rw [e7]
    have G2 : GlAt W2.heap.size W2 (.slice a G.n cap) G := (HG.out.below HB.out).mono (by omega)
    clear hok zc e7 z0 z1 z2 z3 z4 z5 zf
    go_wp2_with fail
    refine (skeleton_walk G (.slice a G.n cap) _ G2 HOK.out).mono ?_
    rintro e W3 ⟨sv, rfl, hs, hb3⟩
    have HS := Lib.hid hs
    obtain ⟨a0, a1, a2, a5, p0, p1, p2, p5, dB, rB, rfl⟩ := hs.form
    have hz3 := hb3.size
    have zc : ∀ o, o < 6 → W3.cell? ⟨w.heap.size + 1, o, none⟩ = some (.slice none 0 0) := fun o ho => (hb3.cell (p := ⟨w.heap.size + 1, o, none⟩) (by show w.heap.size + 1 < _; omega)).trans (HZ.out.1 o ho)
    have zf : ∀ o, W3.frozen? ⟨w.heap.size + 1, o, none⟩ = false := fun o => (hb3.frozen (p := ⟨w.heap.size + 1, o, none⟩) (by show w.heap.size + 1 < _; omega)).trans (HZ.out.2 o)
    have z0 := zc 0 (by omega)
    have z1 := zc 1 (by omega)
    have z2 := zc 2 (by omega)
    have z3 := zc 3 (by omega)
    have z4 := zc 4 (by omega)
    have z5 := zc 5 (by omega)
    have HB3 := Lib.hid (below_then HB.out hb3)
    clear zc hs hb3
    go_wp2
    refine bodyPost_ret (v := .tuple #[.agg #[.slice a0 G.n p0, .slice a1 G.n p1, .slice a2 G.n p2, .slice (some ⟨dB, 0, none⟩) (nE G) (nE G), .slice (some ⟨rB, 0, none⟩) (nE G) (nE G), .slice a5 (nV G) p5], .int .i64 0]) (by simp [results, Try.results23, go_sem, *]) rfl ⟨six_below HB3.out (by omega) _ _ _ _ _ _, .inr ⟨HOK.out, _, rfl, ?_⟩⟩
    exact ((((((HS.out.other (by omega) 0 _).other (by omega) 1 _).other (by omega) 2 _).other (by omega) 3 _).other (by omega) 4 _).other (by omega) 5 _).mono (by omega)
end Go.Proofs.Ytlckpgahijlmoaa
/- The classes of triangles, counted: each number is one of them; the places in which they first come. No condition. -/
namespace Go.Proofs.Ytlckpgahijlmoaa
open Go.RowKit

def PR (n : Nat) (r : Nat → Nat) : Prop := ∃ u, Reps n u r
theorem PR.join {n : Nat} {r : Nat → Nat} (h : PR n r) {i j : Nat} (hi : i < n) (hj : j < n) : PR n (joinR r i j) := by
  obtain ⟨u, hu⟩ := h
  exact ⟨_, hu.join i j hi hj⟩
def CInv (n : Nat) (s : Cls) : Prop := PR (4 * n) s.r1 ∧ PR (16 * n) s.r2 ∧ PR (6 * n) s.r3 ∧ PR (4 * n) s.r4
theorem lp_inv {α : Type} {f : Nat → α → α} {p : α → Prop} {s : α} (hs : p s) : ∀ {n : Nat}, (∀ i, i < n → ∀ s, p s → p (f i s)) → p (lp f s n) := by
  intro n
  induction n with
  | zero => intro _; exact hs
  | succ n ih => intro h; exact h n (by omega) _ (ih (fun i hi => h i (by omega)))
theorem cls_inv {G : Gl} (h : checkB G = true) : CInv G.n (clsAll G) := by
  have z : ∀ n, PR n id := fun n => ⟨id, fun i _ => Nat.le_refl _, fun _ _ => rfl, fun _ _ _ => rfl⟩
  refine lp_inv (p := CInv G.n) ⟨z _, z _, z _, z _⟩ fun k hk s hs => ?_
  unfold clsF
  split
  · exact hs
  · next ht =>
    obtain ⟨h1, h2, hp⟩ := ok_face h hk ht
    have hinj := ok_inj h hk ht
    have pk := (hp (k % 4) (by omega)).2
    refine lp_inv (p := CInv G.n) ?_ ?_
    · exact ⟨hs.1, hs.2.1, hs.2.2.1, hs.2.2.2.join hk (by omega)⟩
    clear hs
    intro i hi s hs
    unfold clsI
    split
    · exact hs
    · next hik =>
      have pi := (hp i hi).2
      refine lp_inv (p := CInv G.n) ?_ ?_
      · exact ⟨hs.1.join (by omega) (by omega), hs.2⟩
      clear hs
      intro j hj s hs
      unfold clsJ
      split
      · next hjk =>
        have pj := (hp j hj).2
        have e1 := (edN_eq i j hi hj (fun e => hjk.2 e.symm)).2
        have e2 := (edN_eq (G.P k i) (G.P k j) pi pj (hinj i j hi hj (fun e => hjk.2 e.symm))).2
        exact ⟨hs.1, hs.2.1.join (by omega) (by omega), hs.2.2.1.join (by omega) (by omega), hs.2.2.2⟩
      · exact hs

def nF (G : Gl) : Nat := cnt (clsAll G).r4 (4 * G.n)
theorem fN_lt {G : Gl} (h : checkB G = true) {k : Nat} (hk : k < 4 * G.n) : fN G k < nF G := by
  obtain ⟨u, hu⟩ := (cls_inv h).2.2.2
  have := hu.rle k hk
  exact cnt_lt _ (hu.idem k hk) (by omega)
theorem eN_lt' {G : Gl} (h : checkB G = true) {k : Nat} (hk : k < 6 * G.n) : eN G k < nE G := by
  obtain ⟨u, hu⟩ := (cls_inv h).2.2.1
  have := hu.rle k hk
  exact cnt_lt _ (hu.idem k hk) (by omega)
/-- a class's number comes first where as many classes have come before -/
theorem fN_first {G : Gl} (h : checkB G = true) {k : Nat} (hk : k < 4 * G.n) : cnt (clsAll G).r4 (k + 1) = if fN G k = cnt (clsAll G).r4 k then cnt (clsAll G).r4 k + 1 else cnt (clsAll G).r4 k := by
  obtain ⟨u, hu⟩ := (cls_inv h).2.2.2
  have hr := hu.rle k hk
  have hi := hu.idem k hk
  simp only [cnt]
  by_cases e : (clsAll G).r4 k = k
  · rw [if_pos e, if_pos (by unfold fN; rw [e])]
  · rw [if_neg e, if_neg]
    · rfl
    · have := cnt_lt (clsAll G).r4 (i := k) (n := k) hi (by omega)
      unfold fN; omega
/-- the first places of the classes among the first k faces -/
def fD (G : Gl) : Nat → Nat × Nat → Option Nat
  | 0 => fun _ => none
  | k + 1 => if fN G k = cnt (clsAll G).r4 k then fun p => if p = (k / 4, k % 4) then some (fN G k) else fD G k p else fD G k
end Go.Proofs.Ytlckpgahijlmoaa
namespace Go.Proofs.Ytlckpgahijlmoaa
open Go.RowKit Go.Shelf Go.Maps

theorem und78 : Try.prog.underlying 78 = some (.map 83 3) := by kernel_rfl
/-- a space in memory, its places found among the first k faces -/
structure SP (W : World) (B X mb : Nat) (v : Value) (G : Gl) (k : Nat) (vv ev tv lv : Value) (dB rB : Nat) : Prop where
  c0 : W.cell? ⟨X, 0, none⟩ = some v
  c1 : W.cell? ⟨X, 1, none⟩ = some vv
  c2 : W.cell? ⟨X, 2, none⟩ = some ev
  c3 : W.cell? ⟨X, 3, none⟩ = some tv
  c4 : W.cell? ⟨X, 4, none⟩ = some (.slice (some ⟨dB, 0, none⟩) (nE G) (nE G))
  c5 : W.cell? ⟨X, 5, none⟩ = some (.slice (some ⟨rB, 0, none⟩) (nE G) (nE G))
  c6 : W.cell? ⟨X, 6, none⟩ = some lv
  c7 : W.cell? ⟨X, 7, none⟩ = some (.map (some mb))
  c8 : W.cell? ⟨X, 8, none⟩ = some (.int .i64 (cnt (clsAll G).r4 k : Nat))
  f8 : W.frozen? ⟨X, 8, none⟩ = false
  own : W.ownsRow B 162 6 ev G.n (ints (eN G) (6 * G.n))
  twn : W.ownsRow B 84 4 tv G.n (ints (fN G) (4 * G.n))
  map : ∃ nn, MapIs W 83 okp kp vi mb nn (fD G k)
  ne : X ≠ mb ∧ ev.ownBlock ≠ some X ∧ ev.ownBlock ≠ some mb ∧ tv.ownBlock ≠ some X ∧ tv.ownBlock ≠ some mb
  lo : B ≤ X ∧ B ≤ mb
theorem SP.lt {W : World} {B X mb : Nat} {v : Value} {G : Gl} {k : Nat} {vv ev tv lv : Value} {dB rB : Nat} (h : SP W B X mb v G k vv ev tv lv dB rB) : X < W.heap.size := lt_of_cell h.c0
theorem SP.kept {W W' : World} {B X mb : Nat} {v : Value} {G : Gl} {k : Nat} {vv ev tv lv : Value} {dB rB : Nat} (h : SP W B X mb v G k vv ev tv lv dB rB) (hg : W.grownBy W' none) : SP W' B X mb v G k vv ev tv lv dB rB := by
  have ow : ∀ v : Value, v.ownBlock = none ∨ v.ownBlock ≠ none := fun v => by cases v.ownBlock <;> simp
  obtain ⟨nn, hm⟩ := h.map
  exact ⟨hg.cell h.c0 (by simp), hg.cell h.c1 (by simp), hg.cell h.c2 (by simp), hg.cell h.c3 (by simp), hg.cell h.c4 (by simp), hg.cell h.c5 (by simp), hg.cell h.c6 (by simp), hg.cell h.c7 (by simp), hg.cell h.c8 (by simp),
    (hg.frozen_far ⟨X, 8, none⟩ h.lt (by simp)).trans h.f8, h.own.kept hg (ow _), h.twn.kept hg (ow _), ⟨nn, hm.kept hg (by simp)⟩, h.ne, h.lo⟩
theorem SP.below {W W' : World} {B X mb : Nat} {v : Value} {G : Gl} {k : Nat} {vv ev tv lv : Value} {dB rB : Nat} (h : SP W B X mb v G k vv ev tv lv dB rB) (hb : Below W.heap.size W W') : SP W' B X mb v G k vv ev tv lv dB rB := h.kept (below_grown hb (Nat.le_refl _) none)
/-- a class's first place is entered -/
theorem SP.enter {W W3 : World} {B X mb : Nat} {v : Value} {G : Gl} {t f : Nat} {vv ev tv lv : Value} {dB rB : Nat} (hok : checkB G = true) (hf : f < 4) (hk : 4 * t + f < 4 * G.n) (h : SP W B X mb v G (4 * t + f) vv ev tv lv dB rB) (hq : fN G (4 * t + f) = cnt (clsAll G).r4 (4 * t + f)) {nn : Nat}
    (h1 : MapIs W3 83 okp kp vi mb nn (fun p => if p = (t, f) then some (fN G (4 * t + f)) else fD G (4 * t + f) p)) (h2 : W.grownBy W3 (some mb)) :
    SP (W3.setCell ⟨X, 8, none⟩ (.int .i64 ((cnt (clsAll G).r4 (4 * t + f) + 1 : Nat) : Int))) B X mb v G (4 * t + (f + 1)) vv ev tv lv dB rB := by
  obtain ⟨n1, n2, n3, n4, n5⟩ := h.ne
  have hX : some X ≠ some mb := by simpa using n1
  have hsc := grownBy_setCell W3 X 8 (.int .i64 ((cnt (clsAll G).r4 (4 * t + f) + 1 : Nat) : Int))
  have e := fN_first hok hk
  rw [if_pos hq] at e
  have ow : ∀ (v : Value) (b : Nat), v.ownBlock ≠ some b → (v.ownBlock = none ∨ v.ownBlock ≠ some b) := fun v b h => .inr h
  refine ⟨ds_other (h2.cell h.c0 hX) (by omega), ds_other (h2.cell h.c1 hX) (by omega), ds_other (h2.cell h.c2 hX) (by omega), ds_other (h2.cell h.c3 hX) (by omega), ds_other (h2.cell h.c4 hX) (by omega), ds_other (h2.cell h.c5 hX) (by omega), ds_other (h2.cell h.c6 hX) (by omega), ds_other (h2.cell h.c7 hX) (by omega), ?_, ?_, (h.own.kept h2 (.inr n3)).kept hsc (.inr n2), (h.twn.kept h2 (.inr n5)).kept hsc (.inr n4), ⟨nn, ?_⟩, h.ne, h.lo⟩
  · show _ = some (Value.int .i64 ((cnt (clsAll G).r4 ((4 * t + f) + 1) : Nat) : Int))
    rw [e]; exact World.cell?_setCell_same _ _ _ (h2.cell h.c8 hX)
  · rw [World.frozen?_setCell]; exact (h2.frozen_far ⟨X, 8, none⟩ h.lt hX).trans h.f8
  · refine (h1.kept hsc (by simp; exact fun e => n1 e.symm)).congr (fun p => ?_)
    show _ = fD G ((4 * t + f) + 1) p
    rw [fD, if_pos hq, show (4 * t + f) / 4 = t by omega, show (4 * t + f) % 4 = f by omega]
theorem SP.skip {W : World} {B X mb : Nat} {v : Value} {G : Gl} {t f : Nat} {vv ev tv lv : Value} {dB rB : Nat} (hok : checkB G = true) (hk : 4 * t + f < 4 * G.n) (h : SP W B X mb v G (4 * t + f) vv ev tv lv dB rB) (hq : fN G (4 * t + f) ≠ cnt (clsAll G).r4 (4 * t + f)) :
    SP W B X mb v G (4 * t + (f + 1)) vv ev tv lv dB rB := by
  have e := fN_first hok hk
  rw [if_neg hq] at e
  obtain ⟨nn, hm⟩ := h.map
  refine ⟨h.c0, h.c1, h.c2, h.c3, h.c4, h.c5, h.c6, h.c7, ?_, h.f8, h.own, h.twn, ⟨nn, hm.congr (fun p => ?_)⟩, h.ne, h.lo⟩
  · show _ = some (Value.int .i64 ((cnt (clsAll G).r4 ((4 * t + f) + 1) : Nat) : Int))
    rw [e]; exact h.c8
  · show _ = fD G ((4 * t + f) + 1) p
    rw [fD, if_neg hq]

set_option maxRecDepth 100000 in
set_option maxHeartbeats 4000000 in
theorem enter_walk (G : Gl) (v : Value) (w : World) (hG : GlAt w.heap.size w v G) (hm : G.n ≤ 9223372036854775807) :
    Calls Try.prog 41 #[.agg #[v]] w fun e w' => Below w.heap.size w w' ∧ ((checkB G = false ∧ e = .returned (.tuple #[.pointer none, .int .i64 7])) ∨
      (checkB G = true ∧ (∃ i, i < nE G ∧ revK G (6 * G.n) i = true) ∧ e = .returned (.tuple #[.pointer none, .int .i64 8])) ∨
      (checkB G = true ∧ (∀ i, i < nE G → revK G (6 * G.n) i = false) ∧ ∃ X mb vv ev tv lv dB rB, e = .returned (.tuple #[.pointer (some ⟨X, 0, none⟩), .int .i64 0]) ∧ SP w' w.heap.size X mb v G (4 * G.n) vv ev tv lv dB rB)) := by
  have hmm := @run_makeMap Try.prog
  have HG := Lib.hid hG
  obtain ⟨a, b, off, cap, rfl, hga, hc⟩ := hG
  clear hga hc
  have G1 : ∀ o, GlAt (w.alloc o).heap.size (w.alloc o) (.slice a G.n cap) G := fun o => (HG.out.below (B := w.heap.size) (by (repeat' (first | assumption | exact Below.refl _ _ | refine below_then ?_ (by assumption) | refine below_al ?_ _ | refine below_dr ?_ | refine below_sc ?_ (by simp <;> omega) _)))).mono (by simp)
  go_enter Try.func41, Try.ntmps41
  go_wp2_with fail
  refine (Check_walk G (.slice a G.n cap) _ (G1 _) hm).mono ?_
  rintro e W2 ⟨rfl, hb⟩
  have hz := hb.size
  simp only [World.size_alloc] at hz
  have hbw : Below w.heap.size w W2 := by (repeat' (first | assumption | exact Below.refl _ _ | refine below_then ?_ (by assumption) | refine below_al ?_ _ | refine below_dr ?_ | refine below_sc ?_ (by simp <;> omega) _))
  have x0 : W2.cell? ⟨w.heap.size, 0, none⟩ = some (.slice a G.n cap) := (hb.cell (p := ⟨w.heap.size, 0, none⟩) (by simp)).trans (by simp [go_sem])
  have HB := Lib.hid hbw
  clear hbw hb G1
  cases hok : checkB G with
  | false =>
    have HOK := Lib.hid hok
    have e7 : checkI G = 7 := by simp [checkI, hok]
    rw [e7]
    clear hok e7
    go_wp2
    go_ret2
    exact ⟨HB.out, .inl ⟨HOK.out, rfl⟩⟩
  | true =>
    have HOK := Lib.hid hok
    have e7 : checkI G = 0 := by simp [checkI, hok]
    rw [e7]
    have G2 : GlAt W2.heap.size W2 (.slice a G.n cap) G := (HG.out.below HB.out).mono (by omega)
    clear hok e7
    have hn : G.n ≤ 1000 := by have := HOK.out; simp [checkB] at this; exact this.1
    have hsz : nE G ≤ 6000 := by have := cnt_le (clsAll G).r3 (6 * G.n); unfold nE; omega
    go_wp2_with fail
    refine (Of_walk G (.slice a G.n cap) _ G2 hm).mono ?_
    rintro e W3 ⟨hb3, (⟨h, _⟩ | ⟨_, sv, rfl, hs⟩)⟩
    · rw [HOK.out] at h; cases h
    obtain ⟨vv, ev, tv, lv, dB, rB, xs, rfl, s1, s2, s3, s4, s5, s6, s7, s8⟩ := hs.ex
    obtain ⟨a0, p0, rfl⟩ := ownsRow_form s1
    obtain ⟨a1, p1, rfl⟩ := ownsRow_form s2
    obtain ⟨a2, p2, rfl⟩ := ownsRow_form s3
    obtain ⟨a5, p5, rfl⟩ := ownsRow_form s4
    have hz3 := hb3.size
    have y0 := (hb3.cell (p := ⟨w.heap.size, 0, none⟩) (by show w.heap.size < _; omega)).trans x0
    have HB3 := Lib.hid (below_then HB.out hb3)
    have HS := Lib.hid (And.intro s1 (And.intro s2 (And.intro s3 (And.intro s4 (And.intro s5 (And.intro s6 (And.intro s7 s8)))))))
    clear hs s1 s2 s3 s4 s5 s6 s7 s8 hb3 x0 G2
    go_wp2
    refine wp_named fun W4 hW => ?_
    have h4 : W3.grownBy W4 none ∧ W4.heap.size = W3.heap.size + 1 ∧ W4.cell? ⟨W3.heap.size, 0, none⟩ = some (.slice a0 G.n p0) ∧ W4.cell? ⟨W3.heap.size, 1, none⟩ = some (.slice a1 G.n p1) ∧ W4.cell? ⟨W3.heap.size, 2, none⟩ = some (.slice a2 G.n p2) ∧ W4.cell? ⟨W3.heap.size, 3, none⟩ = some (.slice (some ⟨dB, 0, none⟩) (nE G) (nE G)) ∧ W4.cell? ⟨W3.heap.size, 4, none⟩ = some (.slice (some ⟨rB, 0, none⟩) (nE G) (nE G)) ∧ W4.cell? ⟨W3.heap.size, 5, none⟩ = some (.slice a5 (nV G) p5) := by
      rw [hW]
      exact ⟨World.grownBy_alloc W3 _ none, by simp, by simp [go_sem], by simp [go_sem], by simp [go_sem], by simp [go_sem], by simp [go_sem], by simp [go_sem]⟩
    obtain ⟨g4, z4, k0, k1, k2, k3, k4, k5⟩ := h4
    clear hW
    have y04 := g4.cell y0 (by simp)
    have hrr := rowIs_kept HS.out.2.2.2.2.2.1 g4 (by simp)
    have HR := Lib.hid hrr
    have HB4 : Below w.heap.size w W4 := HB3.out.grown g4 (by have := HB3.out.size; omega) (fun k hk => by cases hk)
    have HB4 := Lib.hid HB4
    have H4 := Lib.hid g4
    clear hrr y0 g4
    go_loopw [27] (fun i wr => ∃ j : Nat, j ≤ nE G ∧ i = .int .i64 j ∧ (∀ i, i < j → revK G (6 * G.n) i = false) ∧ wr = W4) (fun i _ => nE G - (intOf i).toNat)
    case atStart => exact ⟨0, by omega, rfl, by omega, rfl⟩
    case round =>
      obtain ⟨j, hj, rfl, hall, rfl⟩ := hrel
      have HA := Lib.hid hall; clear hall
      rcases Nat.lt_or_ge j (nE G) with hjn | hjn
      · have hc := HR.out.cell hjn
        have j0 : 0 ≤ (j : Int) := by omega
        have jn : (j : Int) < (nE G : Int) := by omega
        cases hv : revK G (6 * G.n) j with
        | true =>
          rw [hv] at hc
          have HV := Lib.hid hv; clear hv k0 k1 k2 k3 k5
          go_wp2
          go_ret2
          exact ⟨HB4.out, .inr (.inl ⟨HOK.out, ⟨j, hjn, HV.out⟩, rfl⟩)⟩
        | false =>
          rw [hv] at hc
          have HV := Lib.hid hv; clear hv k0 k1 k2 k3 k5
          go_wp2
          go_roundw
          case rel =>
            refine ⟨j + 1, by omega, rfl, fun i hi => ?_, trivial⟩
            by_cases e : i = j
            · subst e; exact HV.out
            · exact HA.out i (by omega)
          case measure => simp [intOf]; omega
      · obtain rfl : j = nE G := by omega
        have hmW := hmm 78 wr
        have ya := cell_al y04
        have k0a := cell_al k0
        have k1a := cell_al k1
        have k2a := cell_al k2
        have k3a := cell_al k3
        have k4a := cell_al k4
        have k5a := cell_al k5
        go_wp2
        refine wp_named fun W5 hW => ?_
        have hSP : SP W5 w.heap.size (W3.heap.size + 1 + 1) (W3.heap.size + 1) (.slice a G.n cap) G (4 * 0) (.slice a0 G.n p0) (.slice a1 G.n p1) (.slice a2 G.n p2) (.slice a5 (nV G) p5) dB rB := by
          have g45 : W3.grownBy W5 none := by rw [hW]; exact grownBy_trans H4.out (grownBy_trans (World.grownBy_alloc wr _ none) (World.grownBy_alloc _ _ none))
          have ow : ∀ v : Value, v.ownBlock = none ∨ v.ownBlock ≠ none := fun v => by cases v.ownBlock <;> simp
          have l1 := HS.out.2.1.lt
          have l2 := HS.out.2.2.1.lt
          have hbs := HB3.out.size
          refine ⟨?_, ?_, ?_, ?_, ?_, ?_, ?_, ?_, ?_, ?_, ownsRow_base (HS.out.2.1.kept g45 (ow _)) (by omega), ownsRow_base (HS.out.2.2.1.kept g45 (ow _)) (by omega), ⟨0, ?_⟩, ⟨by omega, fun e => ?_, fun e => ?_, fun e => ?_, fun e => ?_⟩, ⟨by omega, by omega⟩⟩
          · rw [hW, ← z4]; simp [go_sem]
          · rw [hW, ← z4]; simp [go_sem]
          · rw [hW, ← z4]; simp [go_sem]
          · rw [hW, ← z4]; simp [go_sem]
          · rw [hW, ← z4]; simp [go_sem]
          · rw [hW, ← z4]; simp [go_sem]
          · rw [hW, ← z4]; simp [go_sem]
          · rw [hW, ← z4]; simp [go_sem]
          · rw [hW, ← z4]; simp [go_sem, cnt]
          · rw [hW, ← z4]; simp [go_sem]
          · rw [hW, ← z4]; exact ((MapIs.made wr).kept (World.grownBy_alloc _ _ none) (by simp)).congr (fun p => by simp [fD])
          · have := (l1 _ e).2; omega
          · have := (l1 _ e).2; omega
          · have := (l2 _ e).2; omega
          · have := (l2 _ e).2; omega
        have hB5 : Below w.heap.size w W5 := by rw [hW]; exact (HB4.out.alloc HB4.out.size _).alloc (by have := HB4.out.size; simp; omega) _
        clear hW hmW ya k0a k1a k2a k3a k4a k5a k0 k1 k2 k3 k4 k5 y04
        have H5 := Lib.hid (And.intro hSP hB5); clear hSP hB5
        generalize hX : W3.heap.size + 1 + 1 = X at *
        generalize hM : W3.heap.size + 1 = M at *
        go_loopw [41] (fun i wr => ∃ t : Nat, t ≤ G.n ∧ i = .int .i64 t ∧ SP wr w.heap.size X M (.slice a G.n cap) G (4 * t) (.slice a0 G.n p0) (.slice a1 G.n p1) (.slice a2 G.n p2) (.slice a5 (nV G) p5) dB rB ∧ Below w.heap.size w wr) (fun i _ => G.n - (intOf i).toNat)
        case atStart => exact ⟨0, by omega, rfl, H5.out.1, H5.out.2⟩
        case round =>
          clear H5
          obtain ⟨t, ht, rfl, hSP, hB⟩ := hrel
          rcases Nat.lt_or_ge t G.n with htn | htn
          · obtain ⟨gt, ct, ht2, _, _⟩ := hSP.twn.form (by omega)
            obtain ⟨rfl, rfl⟩ : a2 = some ⟨gt, 0, none⟩ ∧ p2 = ct := by simpa using ht2
            have hr : ∀ i, i < 4 → wr.cell? ⟨gt, t * 4 + i, none⟩ = some (.int .i64 (fN G (4 * t + i) : Nat)) := fun i hi => by
              have := hSP.twn.cells (g := gt) rfl (4 * t + i) _ (ints_get (fN G) (4 * G.n) (4 * t + i) (by omega))
              rw [Addr.add_mid, Nat.zero_add] at this
              rw [show t * 4 + i = 4 * t + i by omega]; exact this
            have e0 := hr 0 (by omega)
            have e1 := hr 1 (by omega)
            have e2 := hr 2 (by omega)
            have e3 := hr 3 (by omega)
            rw [Nat.add_zero] at e0
            rw [Nat.add_zero] at e0
            have t0 : 0 ≤ (t : Int) := by omega
            have tn : (t : Int) < (G.n : Int) := by omega
            have c3 := hSP.c3
            have HK := Lib.hid (And.intro hSP hB)
            clear hSP hB hr ht2
            go_wp2
            refine wp_named fun W6 hW => ?_
            have h6 : wr.grownBy W6 none := by rw [hW]; exact World.grownBy_alloc wr _ none
            clear hW e0 e1 e2 e3 c3
            have H6 := Lib.hid (show SP W6 w.heap.size X M (.slice a G.n cap) G (4 * t + 0) (.slice a0 G.n p0) (.slice a1 G.n p1) (.slice (some ⟨gt, 0, none⟩) G.n p2) (.slice a5 (nV G) p5) dB rB ∧ Below w.heap.size w W6 from ⟨HK.out.1.kept h6, HK.out.2.grown h6 HK.out.2.size (fun k hk => by cases hk)⟩)
            clear h6 HK
            go_loopw [47] (fun i wr => ∃ f : Nat, f ≤ 4 ∧ i = .int .i64 f ∧ SP wr w.heap.size X M (.slice a G.n cap) G (4 * t + f) (.slice a0 G.n p0) (.slice a1 G.n p1) (.slice (some ⟨gt, 0, none⟩) G.n p2) (.slice a5 (nV G) p5) dB rB ∧ Below w.heap.size w wr) (fun i _ => 4 - (intOf i).toNat)
            case atStart => exact ⟨0, by omega, rfl, H6.out.1, H6.out.2⟩
            case round =>
              clear H6
              obtain ⟨f, hf, rfl, hSP, hB⟩ := hrel
              rcases Nat.lt_or_ge f 4 with hf4 | hf4
              · have hix : ∀ w, (Instr.index 84 (.agg #[.int .i64 ((fN G (4 * t) : Nat) : Int), .int .i64 ((fN G (4 * t + 1) : Nat) : Int), .int .i64 ((fN G (4 * t + 2) : Nat) : Int), .int .i64 ((fN G (4 * t + 3) : Nat) : Int)]) (.int .i64 (f : Int))).run Try.prog w = .ok (.int .i64 ((fN G (4 * t + f) : Nat) : Int)) w := fun w => P84_index (fun i => (fN G (4 * t + i) : Int)) f hf4 w
                have hk : 4 * t + f < 4 * G.n := by omega
                have c7 := hSP.c7
                have c8 := hSP.c8
                have f8 := hSP.f8
                obtain ⟨nn, hmap⟩ := hSP.map
                have hC := cnt_le (clsAll G).r4 (4 * t + f)
                obtain ⟨C, hCe⟩ : ∃ C, C = cnt (clsAll G).r4 (4 * t + f) := ⟨_, rfl⟩
                rw [← hCe] at c8 hC
                obtain ⟨y, hy⟩ : ∃ y, y = fN G (4 * t + f) := ⟨_, rfl⟩
                rw [← hy] at hix
                have hne := hSP.ne
                have hy2 : y < 9223372036854775808 := by
                  have h1 := fN_lt HOK.out hk
                  have h2 := cnt_le (clsAll G).r4 (4 * G.n)
                  unfold nF at h1; omega
                have f0 : 0 ≤ (f : Int) := by omega
                have f4 : (f : Int) < 4 := by omega
                have hXl := hSP.lt
                have HK := Lib.hid (And.intro hSP (And.intro hB (And.intro hmap (And.intro hCe (And.intro hy hne)))))
                clear hSP hB hmap hCe hy hne
                by_cases hq : y = C
                · have hqq := natbeq_true hq
                  have HQ := Lib.hid hq
                  clear hq
                  have qC : IntKind.i64.wrap ((C : Int) + 1) = ((C + 1 : Nat) : Int) := by rw [IntWalk.i64_in _ (by omega)]; rfl
                  go_wp2_with (refine wpList_put (a := (t, f)) (c := y) rfl 78 (.tmp 60) (.tmp 63) (.tmp 64) rfl codes83 und78 HK.out.2.2.1 ⟨by show t < _; omega, by show f < _; omega⟩ rfl rfl rfl ?_; intro W7 m1 m2 m3; have c87 := m2.cell c8 (by have := HK.out.2.2.2.2.2.1; simpa using this); have f87 := (m2.frozen_far ⟨X, 8, none⟩ hXl (by have := HK.out.2.2.2.2.2.1; simpa using this)).trans f8; have H7 := Lib.hid (And.intro m1 (And.intro m2 m3)); clear m1 m2 m3)
                  go_roundw
                  case rel =>
                    obtain ⟨hSP, hB, hmap, hCe, hy, hne⟩ := HK.out
                    have hfc : fN G (4 * t + f) = cnt (clsAll G).r4 (4 * t + f) := by rw [← hy, ← hCe]; exact HQ.out
                    have h := SP.enter HOK.out hf4 hk hSP hfc (by have := H7.out.1; rw [hy] at this; exact this) H7.out.2.1
                    rw [← hCe] at h
                    refine ⟨f + 1, by omega, rfl, h, ?_⟩
                    exact (hB.grown H7.out.2.1 hB.size (fun k hk => by cases hk; exact hSP.lo.2)).setCell hSP.lo.1 _
                  case measure => simp [intOf]; omega
                · have hqq := natbeq_false hq
                  have HQ := Lib.hid hq
                  clear hq
                  go_wp2
                  go_roundw
                  case rel =>
                    obtain ⟨hSP, hB, hmap, hCe, hy, hne⟩ := HK.out
                    exact ⟨f + 1, by omega, rfl, hSP.skip HOK.out hk (by rw [← hy, ← hCe]; exact HQ.out), hB⟩
                  case measure => simp [intOf]; omega
              · obtain rfl : f = 4 := by omega
                have HK := Lib.hid (And.intro hSP hB); clear hSP hB
                go_wp2
                go_roundw
                case rel => exact ⟨t + 1, by omega, rfl, HK.out.1, HK.out.2⟩
                case measure => simp [intOf]; omega
          · obtain rfl : t = G.n := by omega
            have HK := Lib.hid (And.intro hSP hB); clear hSP hB
            go_wp2
            go_ret2
            exact ⟨HK.out.2, .inr (.inr ⟨HOK.out, HA.out, X, M, _, _, _, _, dB, rB, rfl, HK.out.1⟩)⟩
end Go.Proofs.Ytlckpgahijlmoaa
