/- cover's checked: the loop over the sheets, around one edge. -/
import Derived.Test.YtlckpgahijlmoaaQ29
import Derived.Test.YtlckpgahijlmoaaQ30
import Derived.Test.YtlckpgahijlmoaaQ28
import Derived.Test.YtlckpgahijlmoaaQ18
/- Aids for cover's checked: a frame of 190 slots, the marks of ranges over functions, the last sheet. No condition. -/
namespace Go.Proofs.Ytlckpgahijlmoaa
open Go.RowKit Go.Shelf

theorem range_getD (tm : Array Value) (n : Nat) (h : tm.size = n) : tm = ((List.range n).map (fun i => tm.getD i undef)).toArray := by
  apply Array.ext
  · simp [h]
  · intro i h1 h2
    simp [Array.getElem?_eq_getElem h1]
set_option maxRecDepth 100000 in
theorem frame190 (tm : Array Value) (h : tm.size = 190) : ∃ u : Nat → Value, tm = #[u 0, u 1, u 2, u 3, u 4, u 5, u 6, u 7, u 8, u 9, u 10, u 11, u 12, u 13, u 14, u 15, u 16, u 17, u 18, u 19, u 20, u 21, u 22, u 23, u 24, u 25, u 26, u 27, u 28, u 29, u 30, u 31, u 32, u 33, u 34, u 35, u 36, u 37, u 38, u 39, u 40, u 41, u 42, u 43, u 44, u 45, u 46, u 47, u 48, u 49, u 50, u 51, u 52, u 53, u 54, u 55, u 56, u 57, u 58, u 59, u 60, u 61, u 62, u 63, u 64, u 65, u 66, u 67, u 68, u 69, u 70, u 71, u 72, u 73, u 74, u 75, u 76, u 77, u 78, u 79, u 80, u 81, u 82, u 83, u 84, u 85, u 86, u 87, u 88, u 89, u 90, u 91, u 92, u 93, u 94, u 95, u 96, u 97, u 98, u 99, u 100, u 101, u 102, u 103, u 104, u 105, u 106, u 107, u 108, u 109, u 110, u 111, u 112, u 113, u 114, u 115, u 116, u 117, u 118, u 119, u 120, u 121, u 122, u 123, u 124, u 125, u 126, u 127, u 128, u 129, u 130, u 131, u 132, u 133, u 134, u 135, u 136, u 137, u 138, u 139, u 140, u 141, u 142, u 143, u 144, u 145, u 146, u 147, u 148, u 149, u 150, u 151, u 152, u 153, u 154, u 155, u 156, u 157, u 158, u 159, u 160, u 161, u 162, u 163, u 164, u 165, u 166, u 167, u 168, u 169, u 170, u 171, u 172, u 173, u 174, u 175, u 176, u 177, u 178, u 179, u 180, u 181, u 182, u 183, u 184, u 185, u 186, u 187, u 188, u 189] ∧ ∀ i, i < 190 → tm[i]? = some (u i) := by
  refine ⟨fun i => tm.getD i undef, (range_getD tm 190 h).trans rfl, fun i hi => ?_⟩
  simp [Array.getElem?_eq_getElem (show i < tm.size by omega)]

/-- deferred calls that are marks of ranges over functions alone, each open -/
def Marks (ds : List Deferred) (W : World) (B : Nat) : Prop :=
  ∃ rs : List Nat, ds = rs.map (fun r => { target := .collected r, args := #[] }) ∧ rs.Nodup ∧ ∀ r ∈ rs, B ≤ r ∧ W.heap[r]? = some (.deferred (some []))
theorem Marks.nil (W : World) (B : Nat) : Marks [] W B := ⟨[], rfl, by simp, by simp⟩
theorem Marks.kept {ds : List Deferred} {W W' : World} {B : Nat} (h : Marks ds W B) (hk : ∀ r, B ≤ r → W.heap[r]? = some (.deferred (some [])) → W'.heap[r]? = some (.deferred (some []))) : Marks ds W' B := by
  obtain ⟨rs, e, hn, hr⟩ := h
  exact ⟨rs, e, hn, fun r hm => ⟨(hr r hm).1, hk r (hr r hm).1 (hr r hm).2⟩⟩
theorem Marks.grown {ds : List Deferred} {W W' : World} {B : Nat} (h : Marks ds W B) (hg : W.grownBy W' none) : Marks ds W' B := h.kept fun r _ hr => (hg.block r (Array.getElem?_eq_some_iff.1 hr).1 (by simp)).trans hr
theorem Marks.push {ds : List Deferred} {W W' : World} {B D : Nat} (h : Marks ds W B) (hD : W.heap.size ≤ D) (hB : B ≤ D) (hk : ∀ r, B ≤ r → W.heap[r]? = some (.deferred (some [])) → W'.heap[r]? = some (.deferred (some []))) (hd : W'.heap[D]? = some (.deferred (some []))) : Marks ({ target := .collected D, args := #[] } :: ds) W' B := by
  obtain ⟨rs, e, hn, hr⟩ := h
  refine ⟨D :: rs, by rw [e]; rfl, List.nodup_cons.2 ⟨fun hm => ?_, hn⟩, fun r hm => ?_⟩
  · have := (Array.getElem?_eq_some_iff.1 (hr D hm).2).1; omega
  · rcases List.mem_cons.1 hm with rfl | hm
    · exact ⟨hB, hd⟩
    · exact ⟨(hr r hm).1, hk r (hr r hm).1 (hr r hm).2⟩
theorem leaves_marks {F : Fence} {n : Nat} {fn : Func} {tmps : Array Value} {R : Ending → World → Prop} {u : FrameMode} (hu : u ≠ .run) (B : Nat) :
    ∀ (rs : List Nat) (W : World), rs.Nodup → (∀ r ∈ rs, B ≤ r ∧ W.heap[r]? = some (.deferred (some []))) → (∀ W', Below B W W' → LeavesInM F n Try.prog fn tmps R [] u W') →
      B ≤ W.heap.size → LeavesInM F n Try.prog fn tmps R (rs.map (fun r => { target := .collected r, args := #[] })) u W
  | [], W, _, _, hk, _ => hk W (Below.refl _ _)
  | r :: rs, W, hn, hr, hk, hB => by
    obtain ⟨hn1, hn2⟩ := List.nodup_cons.1 hn
    have h1 := hr r (by simp)
    have hp := grownBy_putObj' W r (.deferred none)
    have hb : Below B W (W.putObj r (.deferred none)) := (Below.refl _ _).grown hp hB (fun k e => by cases e; exact h1.1)
    refine ⟨hu, .inl ⟨r, _, rfl, run_takeDeferred h1.2, ?_⟩⟩
    refine leaves_marks hu B rs _ hn2 (fun r' hm => ⟨(hr r' (by simp [hm])).1, ?_⟩) (fun W' hb' => hk W' (hb.trans hb')) (by simpa using hB)
    have hne : r' ≠ r := fun e => hn1 (by rw [← e]; exact hm)
    exact (World.putObj_heap_other hne).trans (hr r' (by simp [hm])).2
theorem Marks.leaves {F : Fence} {n : Nat} {fn : Func} {tmps : Array Value} {R : Ending → World → Prop} {u : FrameMode} {ds : List Deferred} {W : World} {B : Nat} (h : Marks ds W B) (hu : u ≠ .run) (hB : B ≤ W.heap.size) (hk : ∀ W', Below B W W' → LeavesInM F n Try.prog fn tmps R [] u W') : LeavesInM F n Try.prog fn tmps R ds u W := by
  obtain ⟨rs, rfl, hn, hr⟩ := h
  exact leaves_marks hu B rs W hn hr hk hB

/-- the last sheet that came -/
def lastI (i : Nat) (pre : List Nat) : Nat := pre.getLast?.getD i
theorem lastI_snoc (i x : Nat) (pre : List Nat) : lastI i (pre ++ [x]) = x := by simp [lastI]
theorem lastI_sh (G : Gl) (f g : Nat → Nat → Int) (xs : List RS) (i m : Nat) : lastI i ((List.range m).map (fun k => shA G f g xs i (k + 1))) = shA G f g xs i m := by
  cases m with
  | zero => rfl
  | succ m => rw [List.range_succ, List.map_append]; exact lastI_snoc _ _ _
/-- the variable that takes the sheets, under way: block L; block Z is the iterator's own -/
structure LI (W0 : World) (L Z i : Nat) (pre : List Nat) (W : World) : Prop where
  os : W.os = W0.os
  tape : W.tape = W0.tape
  output : W.output = W0.output
  size : W0.heap.size ≤ W.heap.size
  blk : ∀ k, k < W0.heap.size → k ≠ L → k ≠ Z → W.heap[k]? = W0.heap[k]?
  c : W.cell? ⟨L, 0, none⟩ = some (.int .i64 (lastI i pre : Nat))
  f : W.frozen? ⟨L, 0, none⟩ = false
theorem LI.kept {W0 W W' : World} {L Z i : Nat} {pre : List Nat} (hL : L < W0.heap.size) (hLZ : L ≠ Z) (h : LI W0 L Z i pre W) {row : Option Nat} (hg : W.grownBy W' row) (hr : ∀ r, row = some r → W0.heap.size ≤ r ∨ r = Z) : LI W0 L Z i pre W' := by
  have hne : some L ≠ row := fun e => by rcases hr L e.symm with h1 | h1 <;> omega
  refine ⟨hg.os.trans h.os, hg.tape.trans h.tape, hg.output.trans h.output, Nat.le_trans h.size hg.size, fun k hk h1 h2 => ?_, hg.cell h.c hne, (hg.frozen_far ⟨L, 0, none⟩ (Nat.lt_of_lt_of_le hL h.size) hne).trans h.f⟩
  exact (hg.block k (Nat.lt_of_lt_of_le hk h.size) (fun e => by rcases hr k e.symm with q | q <;> omega)).trans (h.blk k hk h1 h2)
theorem LI.abides {W0 : World} {L Z i : Nat} (hL : L < W0.heap.size) (hLZ : L ≠ Z) : AbidesOk (NotOwn L) (fun r => r = Z) W0.heap.size (LI W0 L Z i) := fun _pre _W _W' _row h hg hr => h.kept hL hLZ hg (fun r e => (hr r e).1)
theorem LI.own {W0 : World} {L Z i : Nat} (hL : L < W0.heap.size) (hLZ : L ≠ Z) : OwnFrom W0.heap.size (LI W0 L Z i) := fun _pre _W _W' _row h hg hr => h.kept hL hLZ hg (fun r e => .inl (hr r e).1)
theorem LI.set {W0 W : World} {L Z i N : Nat} {pre : List Nat} (hN : N ≤ L) (hL : L < W0.heap.size) (h : LI W0 L Z i pre W) (x : Nat) :
    KeepsFrom W0.heap.size W (W.setCell ⟨L, 0, none⟩ (.int .i64 (x : Int))) ∧ Spare L N W (W.setCell ⟨L, 0, none⟩ (.int .i64 (x : Int))) ∧ LI W0 L Z i (pre ++ [x]) (W.setCell ⟨L, 0, none⟩ (.int .i64 (x : Int))) := by
  have hg := grownBy_setCell W L 0 (.int .i64 (x : Int))
  have hc : (W.setCell ⟨L, 0, none⟩ (.int .i64 (x : Int))).cell? ⟨L, 0, none⟩ = some (.int .i64 (x : Int)) := World.cell?_setCell_same _ _ _ h.c
  have hN0 : N ≤ W.heap.size := by have := h.size; omega
  refine ⟨keeps_setCell (KeepsFrom.refl _ _) _ _, ⟨(Below.refl N W).grown hg hN0 (fun k e => by cases e; exact hN), fun k c t f hi hn => hg.block k (Array.getElem?_eq_some_iff.1 hi).1 (fun e => hn.1 (by cases e; rfl)), fun k _ hn => ⟨hn.1, fun v hv => ?_⟩, fun _ v hv => ?_⟩, ⟨hg.os.trans h.os, hg.tape.trans h.tape, hg.output.trans h.output, Nat.le_trans h.size hg.size, fun k hk h1 h2 => (hg.block k (Nat.lt_of_lt_of_le hk h.size) (fun e => h1 (by cases e; rfl))).trans (h.blk k hk h1 h2), by rw [lastI_snoc]; exact hc, by rw [World.frozen?_setCell]; exact h.f⟩⟩
  · rw [hc] at hv; cases hv; simp [Value.ownBlock]
  · rw [hc] at hv; cases hv; simp [Value.ownBlock]
end Go.Proofs.Ytlckpgahijlmoaa
namespace Go.Proofs.Ytlckpgahijlmoaa
open Go.RowKit Go.Shelf Go.Maps
attribute [local go_sem] Oper.semAt_some

def cL : Code → Code
  | .seq a _ => a
  | c => c
def cR : Code → Code
  | .seq _ b => b
  | c => c
def cIn : Code → Code
  | .loop c => c
  | .block _ c => c
  | c => c
/-- what follows the loop over the map -/
def kTail (f : Func) : Code := cR (cR (cR (cR (cR (cR (f.body.getD .skip))))))
/-- a round of the loop over the rows of edges -/
def kRow (f : Func) : Code := cIn (cL (cR (cR (cIn (cIn (cR (cL (cR (kTail f)))))))))
/-- a round of the loop over a row -/
def kEdge (f : Func) : Code := cIn (cL (cR (cR (cIn (cIn (cR (cR (kRow f))))))))
/-- the loop over the sheets -/
def kSheets (f : Func) : Code := cIn (cR (cR (cR (cR (cR (cR (kEdge f)))))))
theorem of_loop {P : Program} {Q : Exit → Act → World → Prop} {a : Act} {w : World} {c b : Code} (h : c = Code.loop b) (hw : (Code.loop b).wp P Q a w) : c.wp P Q a w := h ▸ hw

/-- the slots that the loop over the sheets leaves alone -/
structure KpS (t t' : Array Value) : Prop where
  size : t'.size = 190
  k0 : t'[0]? = t[0]?
  k3 : t'[3]? = t[3]?
  k6 : t'[6]? = t[6]?
  k13 : t'[13]? = t[13]?
  k14 : t'[14]? = t[14]?
  k18 : t'[18]? = t[18]?
  k137 : t'[137]? = t[137]?
  k138 : t'[138]? = t[138]?
  k139 : t'[139]? = t[139]?
  k144 : t'[144]? = t[144]?
  k145 : t'[145]? = t[145]?
theorem KpS.trans {a b c : Array Value} (h : KpS a b) (g : KpS b c) : KpS a c :=
  ⟨g.size, g.k0.trans h.k0, g.k3.trans h.k3, g.k6.trans h.k6, g.k13.trans h.k13, g.k14.trans h.k14, g.k18.trans h.k18, g.k137.trans h.k137, g.k138.trans h.k138, g.k139.trans h.k139, g.k144.trans h.k144, g.k145.trans h.k145⟩

set_option maxRecDepth 100000 in
set_option maxHeartbeats 4000000 in
theorem sheets_walk {G : Gl} (hok : checkB G = true) {W1 : World} {B Cv B' X mb : Nat} {v pv bv : Value} {vv ev tv lv : Value} {dB rB sh : Nat} {f g : Nat → Nat → Int} (hCV : CV W1 B Cv B' X mb v pv bv G vv ev tv lv dB rB sh f g) (hBw : B ≤ W1.heap.size) (hf : InSh (nF G) sh f) (hg : InSh (nF G) sh g) (hsh : sh ≤ 24)
    {K : Nat} {rv : Value} {xs : List RS} (hx : ∀ x ∈ xs, Rok G.n x) (hxl : xs.length ≤ 1000000) (hr : W1.ownsRow K 160 5 rv xs.length (rcells xs)) {Bq N0 : Nat} (hq : W1.cell? ⟨Bq, 0, none⟩ = some (.int .i64 (sh : Int))) (hN0 : N0 ≤ W1.heap.size)
    (tm : Array Value) (ds : List Deferred) (hs : tm.size = 190) (s3 : tm[3]? = some (.pointer (some ⟨Bq, 0, none⟩))) (s6 : tm[6]? = some (.pointer (some ⟨Cv, 0, none⟩))) (s18 : tm[18]? = some rv) (s171 : tm[171]? = some (.int .i64 (sh : Int))) (s172 : tm[172]? = some (.int .i64 0)) (hm : Marks ds W1 N0) {Q : Exit → Act → World → Prop}
    (hdone : ∀ tm' ds' W', KpS tm tm' → Marks ds' W' N0 → Below W1.heap.size W1 W' → (∀ i, i < sh → shA G f g xs i xs.length = i) → Q (.exit 10) { tmps := tm', defers := ds' } W')
    (hpan : ∀ tm' ds' W', Marks ds' W' N0 → Below W1.heap.size W1 W' → (∃ i, i < sh ∧ shA G f g xs i xs.length ≠ i) → Q (.panic [{ v := noCov, recovered := false }]) { tmps := tm', defers := ds' } W') :
    (kSheets Try.f85).wp Try.prog Q { tmps := tm, defers := ds } W1 := by
  refine of_loop rfl ?_
  obtain ⟨ra, rp0, hrv⟩ := ownsRow_form hr
  subst hrv
  have HQ := Lib.hid (And.intro hdone hpan)
  have HC := Lib.hid (And.intro hok (And.intro hCV (And.intro hf (And.intro hg (And.intro hx hr)))))
  have HS := Lib.hid (And.intro hs (And.intro s3 (And.intro s6 s18)))
  clear hdone hpan hok hCV hf hg hx hr
  refine wp_loop_ghost (fun n a W => ∃ k : Nat, k ≤ sh ∧ n = sh - k ∧ KpS tm a.tmps ∧ a.tmps[171]? = some (.int .i64 (sh : Int)) ∧ a.tmps[172]? = some (.int .i64 (k : Int)) ∧ Marks a.defers W N0 ∧ Below W1.heap.size W1 W ∧ ∀ i, i < k → shA G f g xs i xs.length = i) sh ⟨0, by omega, rfl, ⟨hs, rfl, rfl, rfl, rfl, rfl, rfl, rfl, rfl, rfl, rfl, rfl⟩, s171, s172, hm, Below.refl _ _, fun i hi => by omega⟩ ?_
  clear s171 s172 hm hs s3 s6 s18
  rintro n ⟨tm', ds'⟩ W ⟨k, hk, rfl, hK, s171, s172, hm, hb, hgood⟩
  obtain ⟨hs, s3, s6, s18⟩ := HS.out
  rw [← hK.k3] at s3
  rw [← hK.k6] at s6
  rw [← hK.k18] at s18
  obtain ⟨u, hu, -⟩ := frame190 tm' hK.size
  simp only at hu
  subst hu
  have e3 : u 3 = .pointer (some ⟨Bq, 0, none⟩) := Option.some.inj s3
  have e6 : u 6 = .pointer (some ⟨Cv, 0, none⟩) := Option.some.inj s6
  have e18 : u 18 = .slice ra xs.length rp0 := Option.some.inj s18
  have e171 : u 171 = .int .i64 (sh : Int) := Option.some.inj s171
  have e172 : u 172 = .int .i64 (k : Int) := Option.some.inj s172
  have HK := Lib.hid (And.intro hK (And.intro hm (And.intro hb hgood)))
  clear hK s171 s172 s3 s6 s18 hs hm hb hgood
  rcases Nat.lt_or_ge k sh with hks | hks
  · have hA := fun (W : World) => around_walk Cv ra xs.length rp0 k W
    have HA := Lib.hid hA; clear hA
    go_wp2_with (go_at_call 119; (with_reducible refine (HA.out _).mono ?_); rintro e W2 ⟨rfl, hW2⟩)
    obtain ⟨L, hL⟩ : ∃ L, L = W.heap.size := ⟨_, rfl⟩
    clear hW2
    refine wp_named fun W2 hW2 => ?_
    have hbW := HK.out.2.2.1
    have hLW := hbW.size
    have h2 : (W2.cell? ⟨L, 0, none⟩ = some (.int .i64 (k : Int)) ∧ W2.frozen? ⟨L, 0, none⟩ = false) ∧ W2.cell? ⟨L + 1, 0, none⟩ = some (.pointer (some ⟨Cv, 0, none⟩)) ∧ W2.cell? ⟨L + 2, 0, none⟩ = some (.slice ra xs.length rp0) ∧ (W2.cell? ⟨L + 3, 0, none⟩ = some (.int .i64 (k : Int)) ∧ W2.frozen? ⟨L + 3, 0, none⟩ = false) ∧ W2.heap.size = L + 4 ∧ W.grownBy W2 none := by
      have g1 := World.grownBy_alloc W (.cells #[.int .i64 (k : Int)] 3) none
      have g2 := World.grownBy_alloc (W.alloc (.cells #[.int .i64 (k : Int)] 3)) (.cells #[.pointer (some ⟨Cv, 0, none⟩)] 90) none
      have g3 := World.grownBy_alloc ((W.alloc (.cells #[.int .i64 (k : Int)] 3)).alloc (.cells #[.pointer (some ⟨Cv, 0, none⟩)] 90)) (.cells #[.slice ra xs.length rp0] 157) none
      have g4 := World.grownBy_alloc (((W.alloc (.cells #[.int .i64 (k : Int)] 3)).alloc (.cells #[.pointer (some ⟨Cv, 0, none⟩)] 90)).alloc (.cells #[.slice ra xs.length rp0] 157)) (.cells #[.int .i64 (k : Int)] 3) none
      rw [hW2]
      refine ⟨⟨?_, ?_⟩, ?_, ?_, ⟨?_, ?_⟩, by simp; omega, grownBy_trans g1 (grownBy_trans g2 (grownBy_trans g3 g4))⟩
      · rw [hL]; simp [go_sem]
      · rw [hL]; simp [go_sem]
      · rw [hL]; simp [go_sem]
      · rw [hL]; simp [go_sem]
      · rw [hL]; simp [go_sem]
      · rw [hL]; simp [go_sem]
    have hgr := h2.2.2.2.2.2
    have hsz := Nat.le_of_eq h2.2.2.2.2.1
    have hsz2 := Nat.le_of_eq h2.2.2.2.2.1.symm
    have hb2 : Below W1.heap.size W1 W2 := hbW.grown hgr hLW (fun k e => by cases e)
    simp only [← hL]
    rw [← hL] at hLW
    have HL := Lib.hid (And.intro hL (And.intro hbW hgr))
    clear hW2 hL hbW hgr
    refine act_named fun A hA => ?_
    refine (wpIn_wide (n := 6)).1 ?_
    have hnn : ∀ i, i ≠ L → NotOwn L W2 i := fun i hi => ⟨hi, fun v hv => by rw [h2.1.1] at hv; cases hv; simp [Value.ownBlock]⟩
    have hfr : FrR L W2 := fun v hv => by rw [h2.1.1] at hv; cases hv; simp [Value.ownBlock]
    obtain ⟨hok, hCV, hf, hg, hx, hr⟩ := HC.out
    have hit := around_iter hok hCV hBw hf hg hx hxl hr hb2 5 (by omega) W1.heap.size (L + 2) (L + 1) (L + 3) L (Nat.le_refl _) (by omega) k hks h2.2.2.1 h2.2.1 h2.2.2.2.1.1 h2.2.2.2.1.2 (hnn _ (by omega)) (hnn _ (by omega)) (hnn _ (by omega)) (by omega) hfr (by omega) (by omega) (by omega)
    have HI := Lib.hid hit
    have H2 := Lib.hid (And.intro h2 hb2)
    clear hit hok hCV hf hg hx hr hnn hfr h2 hb2
    have hLs : L < W2.heap.size := by omega
    refine wpIn_rangeLim (by omega) (gf := 128) (lb := #[.pointer (some ⟨L + 2, 0, none⟩), .pointer (some ⟨L + 1, 0, none⟩), .pointer (some ⟨L + 3, 0, none⟩)]) (by rw [hA]; rfl) (enters_of Try.func128 (by kernel_rfl) rfl) HI.out (fun r h => by subst h; omega) Spare.trans (fun W l r r' hl h => spare_put (by omega) h) (Below.refl _ _) (fun _ => rfl)
      (LI W2 L (L + 3) k) (fun _ _ => False) (fun _ _ _ => trivial) (LI.own hLs (by omega)) (fun _ _ _ _ h _ _ => h.elim) (LI.abides hLs (by omega)) (fun _ _ _ _ h _ _ => h.elim)
      ⟨rfl, rfl, rfl, Nat.le_refl _, fun _ _ _ _ => rfl, H2.out.1.1.1, H2.out.1.1.2⟩ (fun x a' W => a' = { tmps := (A.tmps.setIfInBounds 180 (.int .i64 (x : Int))).setIfInBounds 23 (.int .i64 (x : Int)), defers := [] }) (fun x a' _ _ _ _ h _ _ => h) ?assign ?body ?done ?stop
    case assign =>
      rintro l pre x W3 K hI hK
      have HK2 := Lib.hid hK; clear hK
      have HI2 := Lib.hid hI; clear hI
      subst hA
      unfold encI at *
      gi_wp2
      exact HK2.out _ _ (KeepsFrom.refl _ _) ⟨Below.refl _ _, fun _ _ _ _ _ _ => rfl, fun _ _ h => h, fun h => h⟩ HI2.out rfl
    case body =>
      rintro l pre x a' W3 hl hI rfl hNb
      have hI0 := hI.c
      have hI1 := hI.f
      have HI2 := Lib.hid hI; clear hI
      subst hA
      gi_wp2
      exact HI2.out.set hLW hLs x
    case stop =>
      rintro D2 pre W5 _ _ h _
      exact h.elim
    case done =>
      rintro D xs' W3 hD hxs hI hK2
      subst hxs
      obtain ⟨z, hz⟩ : ∃ z, z = shA G f g xs k xs.length := ⟨_, rfl⟩
      have hc := hI.c
      rw [lastI_sh, ← hz] at hc
      have hW3 : Below W1.heap.size W1 W3 := by
        have h3 : Below W1.heap.size W2 W3 := ⟨hI.os, hI.tape, hI.output, hI.size, fun i hi => hI.blk i (by omega) (by omega) (by omega)⟩
        exact H2.out.2.trans h3
      have hLe := HL.out.1
      have hM : Marks ({ target := .collected D, args := #[] } :: ds') W3 N0 := HK.out.2.1.push (by omega) (by omega) (fun r _ hr => by
        have hlt := (Array.getElem?_eq_some_iff.1 hr).1
        have h4 := (HL.out.2.2.block r hlt (by simp)).trans hr
        exact (hI.blk r (by omega) (by omega) (by omega)).trans h4) hK2
      have HR := Lib.hid (And.intro hz (And.intro hW3 hM))
      clear hI hK2 hz hW3 hM hLe
      subst hA
      by_cases hzk : z = k
      · have q1 : ((z : Int) == (k : Int)) = true := by simp; omega
        go_wp2_with (go_at_call 115; (with_reducible refine (need_true _).mono ?_); rintro e w5 ⟨⟨v5, rfl⟩, rfl⟩)
        obtain ⟨hK, _, _, hgood⟩ := HK.out
        refine ⟨sh - (k + 1), by omega, k + 1, by omega, rfl, hK.trans ⟨rfl, rfl, congrArg some e3.symm, congrArg some e6.symm, rfl, rfl, congrArg some e18.symm, rfl, rfl, rfl, rfl, rfl⟩, rfl, rfl, HR.out.2.2, HR.out.2.1, fun i hi => ?_⟩
        rcases Nat.lt_or_ge i k with h | h
        · exact hgood i h
        · obtain rfl : i = k := by omega
          rw [← HR.out.1]; exact hzk
      · have q1 : ((z : Int) == (k : Int)) = false := by simp; omega
        go_wp2_with (go_at_call 115; (with_reducible refine (need_false _).mono ?_); rintro e w5 ⟨rfl, rfl⟩)
        exact HQ.out.2 _ _ _ HR.out.2.2 HR.out.2.1 ⟨k, hks, by rw [← HR.out.1]; exact hzk⟩
  · obtain rfl : k = sh := by omega
    go_wp2
    obtain ⟨hK, hm, hb, hgood⟩ := HK.out
    exact HQ.out.1 _ _ _ (hK.trans ⟨rfl, rfl, congrArg some e3.symm, congrArg some e6.symm, rfl, rfl, congrArg some e18.symm, rfl, rfl, rfl, rfl, rfl⟩) hm hb hgood
end Go.Proofs.Ytlckpgahijlmoaa
