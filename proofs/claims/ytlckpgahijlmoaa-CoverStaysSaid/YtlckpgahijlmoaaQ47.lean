/- cover's tree: a map of places. -/
import Derived.Test.YtlckpgahijlmoaaQ46
import Derived.Test.YtlckpgahijlmoaaQ14
import Derived.Test.YtlckpgahijlmoaaQ29
import Derived.Test.YtlckpgahijlmoaaQ39
import Derived.Test.YtlckpgahijlmoaaQ31
namespace Go.Proofs.Ytlckpgahijlmoaa
open Go.RowKit Go.Shelf Go.Maps

theorem und127 : Try.prog.underlying 127 = some (.map 83 4) := by kernel_rfl
def mI (a : Nat) : Value := .int .i64 (a : Int)
def okI (a : Nat) : Prop := a < 9223372036854775808
theorem okI0 : okI 0 := by show 0 < 9223372036854775808; omega
theorem codesI : Codes 3 okI mI := codes_int
/-- an entry of a map's literal -/
theorem wpList_insert {α β : Type} [DecidableEq α] {W : World} {k e : TypeId} {ok : α → Prop} {κ : α → Value} {ν : β → Value} {b n : Nat} {D : α → Option β} {ops : Array Oper} {rest : List Oper} {o : Oper} {act : Act} {Q : Exit → Act → World → Prop} (hg : o.guard = none) (t : TypeId) (m x v : Operand) (hop : o.op = Op.insert t m x v)
    (C : Codes k ok κ) (ht : Try.prog.underlying t = some (.map k e)) (h : MapIs W k ok κ ν b n D) (a : α) (ha : ok a) (c : β) (hm : act.eval m = .map (some b)) (hx : act.eval x = κ a) (hv : act.eval v = ν c)
    (hK : ∀ W', MapIs W' k ok κ ν b (if (D a).isSome then n else n + 1) (fun x => if x = a then some c else D x) → W.grownBy W' (some b) → W'.heap.size = W.heap.size → wpList Try.prog ops Q rest (act.put o.dst undef) W') :
    wpList Try.prog ops Q (o :: rest) act W := by
  refine wpList_plain hg fun K' hK' => ?_
  obtain ⟨W', hrun, r1, r2, r3⟩ := h.update C ht a ha c
  unfold Oper.wp
  simp [execOp, hop, hm, hx, hv, hrun, Result.andThen]
  exact hK' _ _ (hK W' r1 r2 r3)

/-- the search under way: the queue, who has been met, the places so far -/
structure TQ (w W : World) (N n : Nat) (v qv : Value) (qs : List Nat) (h : Nat → Int) : Prop where
  own : W.ownsRow (N + 3) 3 1 qv qs.length (qs.map fun (q : Nat) => Value.int .i64 (q : Int))
  met : ∃ nn, MapIs W 3 okI mI Value.bool (N + 2) nn (fun a => if h a = 0 then none else some true)
  out : ∃ nn D, MapIs W 83 okp kp Value.bool (N + 1) nn D
  qlt : ∀ q ∈ qs, q < n
  cnt : qs.length ≤ nzc h n
  c0 : W.cell? ⟨N, 0, none⟩ = some v
  bel : Below N w W
theorem TQ.kept {w W W' : World} {N n : Nat} {v qv : Value} {qs : List Nat} {h : Nat → Int} (hq : TQ w W N n v qv qs h) (hg : W.grownBy W' none) : TQ w W' N n v qv qs h := by
  obtain ⟨n1, h1⟩ := hq.met
  obtain ⟨n2, D, h2⟩ := hq.out
  exact ⟨hq.own.kept hg (by cases qv.ownBlock <;> simp), ⟨n1, h1.kept hg (by simp)⟩, ⟨n2, D, h2.kept hg (by simp)⟩, hq.qlt, hq.cnt, hg.cell hq.c0 (by simp), hq.bel.grown hg (by have := lt_of_cell hq.c0; simp only at this; omega) (fun k e => by cases e)⟩
theorem TQ.lo {w W : World} {N n : Nat} {v qv : Value} {qs : List Nat} {h : Nat → Int} (hq : TQ w W N n v qv qs h) : ∀ b, b < N + 3 → some b ≠ qv.ownBlock := fun b hb e => by have := (hq.own.lt b e.symm).1; omega
theorem TQ.outp {w W W' : World} {N n nn : Nat} {v qv : Value} {qs : List Nat} {h : Nat → Int} {D : Nat × Nat → Option Bool} (hq : TQ w W N n v qv qs h) (hm : MapIs W' 83 okp kp Value.bool (N + 1) nn D) (hg : W.grownBy W' (some (N + 1))) : TQ w W' N n v qv qs h := by
  obtain ⟨n1, h1⟩ := hq.met
  exact ⟨hq.own.kept hg (.inr (fun e => hq.lo _ (by omega) e.symm)), ⟨n1, h1.kept hg (by simp)⟩, ⟨_, _, hm⟩, hq.qlt, hq.cnt, hg.cell hq.c0 (by simp), hq.bel.grown hg (by have := lt_of_cell hq.c0; simp only at this; omega) (fun k e => by cases e; omega)⟩
theorem TQ.qcell {w W : World} {N n : Nat} {v qv : Value} {qs : List Nat} {h : Nat → Int} (hq : TQ w W N n v qv qs h) {k q : Nat} (hk : qs[k]? = some q) : ∃ g cap, qv = .slice (some ⟨g, 0, none⟩) qs.length cap ∧ W.cell? ⟨g, k, none⟩ = some (.int .i64 ((q : Nat) : Int)) ∧ q < n := by
  have hkl := (List.getElem?_eq_some_iff.1 hk).1
  obtain ⟨g, cap, hv, _⟩ := hq.own.form (by omega)
  refine ⟨g, cap, hv, ?_, hq.qlt _ (List.mem_of_getElem? hk)⟩
  have := hq.own.cells (g := g) (by rw [hv]; rfl) k (.int .i64 (q : Nat)) (by simp [hk])
  rwa [Addr.add_mid, Nat.zero_add] at this
theorem TQ.push {w W W1 W2 w3 : World} {N n g cap nn : Nat} {v qv : Value} {qs : List Nat} {h : Nat → Int} (hq : TQ w W N n v qv qs h) {x : Nat} (hx : x < n) (h0 : h x = 0)
    (hm : MapIs W1 3 okI mI Value.bool (N + 2) nn (fun a => if a = x then some true else if h a = 0 then none else some true)) (hg1 : W.grownBy W1 (some (N + 2))) (hg2 : W1.grownBy W2 none)
    (a1 : w3.ownsRow (N + 3) 3 1 (.slice (some ⟨g, 0, none⟩) (qs.length + 1) cap) (qs.length + 1) ((qs.map fun (q : Nat) => Value.int .i64 (q : Int)) ++ [.int .i64 (x : Int)])) (a2 : W2.grownBy w3 qv.ownBlock) :
    TQ w w3 N n v (.slice (some ⟨g, 0, none⟩) (qs.length + 1) cap) (qs ++ [x]) (fun i => if i = x then 1 else h i) := by
  obtain ⟨n2, D, h2⟩ := hq.out
  have hN := lt_of_cell hq.c0
  simp only at hN
  have hs1 := hg1.size
  have hs2 := hg2.size
  refine ⟨by simpa using a1, ⟨nn, (((hm.kept hg2 (by simp)).kept a2 (hq.lo _ (by omega))).congr (fun a => ?_))⟩, ⟨n2, D, ((h2.kept hg1 (by simp)).kept hg2 (by simp)).kept a2 (hq.lo _ (by omega))⟩, fun q hm => ?_, ?_, a2.cell (hg2.cell (hg1.cell hq.c0 (by simp)) (by simp)) (hq.lo N (by omega)), ?_⟩
  · by_cases e : a = x <;> simp [e]
  · rcases List.mem_append.1 hm with q1 | q1
    · exact hq.qlt q q1
    · simp at q1; omega
  · rw [nzc_set hx h0 (by decide)]
    have := hq.cnt
    simp; omega
  · exact ((hq.bel.grown hg1 (by omega) (fun k e => by cases e; omega)).grown hg2 (by omega) (fun k e => by cases e)).grown a2 (by omega) (fun k e => by have := (hq.own.lt k e).1; omega)

theorem slice_blk {g g' n n' c c' : Nat} (h : Value.slice (some ⟨g, 0, none⟩) n c = .slice (some ⟨g', 0, none⟩) n' c') : g' = g := by
  simp at h; omega
set_option maxRecDepth 100000 in
set_option maxHeartbeats 2000000 in
theorem tree_walk (G : Gl) (hok : checkB G = true) (v : Value) (w : World) (hG : GlAt w.heap.size w v G) :
    Calls Try.prog 70 #[.agg #[v]] w fun e w' => ∃ b nn D, e = .returned (.map (some b)) ∧ MapIs w' 83 okp kp Value.bool b nn D ∧ Below w.heap.size w w' := by
  have hn : G.n ≤ 1000 := by simp only [checkB, Bool.and_eq_true, decide_eq_true_eq] at hok; exact hok.1
  have hmm := @run_makeMap Try.prog
  have HG := Lib.hid (And.intro hok hG)
  obtain ⟨a, cap, rfl⟩ : ∃ a cap, v = .slice a G.n cap := by obtain ⟨a, _, _, cap, e, _⟩ := hG; exact ⟨a, cap, e⟩
  clear hok hG
  generalize hN : w.heap.size = N at *
  obtain ⟨n, hne⟩ : ∃ n, n = G.n := ⟨_, rfl⟩
  rw [← hne] at hn ⊢
  have HNN := Lib.hid (And.intro hN hne)
  clear hne
  by_cases hn0 : n = 0
  · subst hn0
    go_enter Try.func70, Try.ntmps70
    go_wp2
    go_ret
    subst hN
    refine ⟨_, 0, fun _ => none, rfl, ?_, by (repeat' (first | assumption | exact Below.refl _ _ | refine below_then ?_ (by assumption) | refine below_al ?_ _ | refine below_dr ?_ | refine below_sc ?_ (by simp <;> omega) _))⟩
    have := MapIs.made (k := 83) (ok := okp) (κ := kp) (ν := Value.bool) (w.alloc (.cells #[.slice a 0 cap] 24))
    simpa using this
  · have q1 : ((n : Int) == 0) = false := by simp; omega
    have hmd : MapIs (((w.alloc (.cells #[.slice a n cap] 24)).alloc (.map #[] 0)).alloc (.map #[] 0)) 3 okI mI Value.bool (N + 1 + 1) 0 (fun _ => none) := by
      have := MapIs.made (k := 3) (ok := okI) (κ := mI) (ν := Value.bool) ((w.alloc (.cells #[.slice a n cap] 24)).alloc (.map #[] 0))
      simpa [hN] using this
    have hmo : MapIs (((w.alloc (.cells #[.slice a n cap] 24)).alloc (.map #[] 0)).alloc (.map #[] 0)) 83 okp kp Value.bool (N + 1) 0 (fun _ => none) := by
      have := MapIs.made (k := 83) (ok := okp) (κ := kp) (ν := Value.bool) (w.alloc (.cells #[.slice a n cap] 24))
      have h2 := this.kept (World.grownBy_alloc _ (.map #[] 0) none) (by simp)
      simpa [hN] using h2
    have hcc : (((w.alloc (.cells #[.slice a n cap] 24)).alloc (.map #[] 0)).alloc (.map #[] 0)).cell? ⟨N, 0, none⟩ = some (.slice a n cap) := cell_al (cell_al (World.cell?_alloc_at _ _ _ _ hN.symm) _) _
    have hbb : Below N w (((w.alloc (.cells #[.slice a n cap] 24)).alloc (.map #[] 0)).alloc (.map #[] 0)) := by subst hN; (repeat' (first | assumption | exact Below.refl _ _ | refine below_then ?_ (by assumption) | refine below_al ?_ _ | refine below_dr ?_ | refine below_sc ?_ (by simp <;> omega) _))
    have H0 := Lib.hid (And.intro hmd (And.intro hmo (And.intro hcc hbb)))
    clear hmd hmo hcc hbb
    go_enter Try.func70, Try.ntmps70
    go_wp2_with (first
      | (refine wpList_insert (a := (0 : Nat)) (c := true) (κ := mI) (ν := Value.bool) (D := fun _ => none) (ok := okI) (k := 3) rfl 182 (.tmp 15) (.const (.int .i64 0)) (.const (.bool true)) rfl codesI und182 H0.out.1 okI0 rfl rfl rfl ?_; intro W1 h1 h2 h3; have H1 := Lib.hid (And.intro h1 (And.intro h2 h3)); clear h1 h2 h3))
    obtain ⟨D, hD⟩ : ∃ D, D = W1.heap.size := ⟨_, rfl⟩
    rw [← hD]
    refine wp_named fun W2 hW2 => ?_
    have hQ : TQ w W2 N n (.slice a n cap) (.slice (some ⟨D, 0, none⟩) 1 1) [0] (fun i => if i = 0 then 1 else 0) := by
      obtain ⟨h1, h2, h3⟩ := H1.out
      obtain ⟨m1, m2, cc, bb⟩ := H0.out
      have hs1 : W1.heap.size = N + 3 := by rw [h3]; simp [hN]
      have hal := World.grownBy_alloc W1 (.cells #[.int .i64 0] 3) none
      rw [← hW2] at hal
      have hown := World.ownsRow_lit (base := N + 3) (e := 3) (size := 1) W1 #[.int .i64 0] 1 (by omega) (by decide) rfl
      rw [← hW2, ← hD] at hown
      refine ⟨hown, ⟨_, (h1.kept hal (by simp)).congr (fun x => ?_)⟩, ⟨_, _, (m2.kept h2 (by simp)).kept hal (by simp)⟩, fun q hq => by simp at hq; omega, ?_, hal.cell (h2.cell cc (by simp; omega)) (by simp), (bb.grown h2 (by simp; omega) (fun r e => by cases e; omega)).grown hal (by omega) (fun r e => by cases e)⟩
      · by_cases e : x = 0 <;> simp [e]
      · have := nzc_set (s := fun _ => 0) (m := n) (j := 0) (x := 1) (by omega) rfl (by decide)
        rw [this]; simp
    have HQ := Lib.hid hQ
    clear hQ hW2 hD
    go_loopw [5, 6] (fun lv i wr => ∃ (qs : List Nat) (h : Nat → Int) (j : Nat), j ≤ qs.length ∧ i = .int .i64 j ∧ TQ w wr N n (.slice a n cap) lv qs h) (fun _ i _ => n - (intOf i).toNat)
    case atStart => exact ⟨_, _, 0, by omega, rfl, HQ.out⟩
    case round =>
      clear HQ
      obtain ⟨qs, h2, j, hj, rfl, hP⟩ := hrel
      obtain ⟨la, lc, rfl⟩ := ownsRow_form hP.own
      have HP := Lib.hid hP
      have hlk : qs.length ≤ n := Nat.le_trans hP.cnt (nzc_le _ _)
      rcases Nat.lt_or_ge j qs.length with hjl | hjl
      · obtain ⟨q, hq⟩ : ∃ q, qs[j]? = some q := ⟨_, List.getElem?_eq_getElem hjl⟩
        obtain ⟨g, gc, hge, hqc, hqk⟩ := hP.qcell hq
        obtain ⟨rfl, -, rfl⟩ : la = some ⟨g, 0, none⟩ ∧ qs.length = qs.length ∧ lc = gc := by simpa using hge
        obtain ⟨_, b, off, _, hve, hga, hgc⟩ := HG.out.2
        simp only [Value.slice.injEq, true_and] at hve
        obtain ⟨hva, hvc⟩ := hve
        obtain ⟨hN2, hne2⟩ := HNN.out
        obtain ⟨hab, hbB⟩ := hga (by omega)
        rw [hab] at hva
        subst hva
        have hrow : RowCells wr.drew b (off + q * 20) G q := by
          have := rowCells (W := w) hgc q (by omega)
          intro jj hjj
          rw [← this jj hjj]
          exact (below_dr hP.bel).cell (p := ⟨b, off + q * 20 + jj, none⟩) (by exact hbB)
        have hrg := RowCells.range hrow
        have c0 : wr.drew.cell? ⟨N, 0, none⟩ = some (.slice (some ⟨b, off, none⟩) n cap) := hP.c0
        replace hqc : wr.drew.cell? ⟨g, j, none⟩ = some (.int .i64 (q : Int)) := hqc
        have j0 : 0 ≤ (j : Int) := by omega
        have jl : (j : Int) < (qs.length : Int) := by omega
        have q0 : 0 ≤ (q : Int) := by omega
        have qk : (q : Int) < (n : Int) := by omega
        have H5 := Lib.hid (And.intro (HP.out.kept (grownBy_drew _ none)) hq)
        clear HP hge hga hgc hvc hN2 hne2 hab hbB hrow hq
        go_wp2
        refine wp_region_still_lit (by kernel_rfl) (by kernel_rfl) ?_
        repeat (first | (refine wpStill_load_row rfl 88 (.tmp 30) rfl b (off + q * 20) rfl (rowA G q) _ hrg Try.underlying88 rfl (by kernel_rfl) ?_) | (refine wpStill_step (fun K hK => ?_); go_simp; refine hK _ ?_; clear hK K))
        refine wpStill_nil ?_
        go_wp2
        clear hqc c0 hrg
        go_loopw [5, 32] (fun lv i wr => ∃ (qs : List Nat) (h : Nat → Int) (f : Nat), f ≤ 4 ∧ i = .int .i64 f ∧ qs[j]? = some q ∧ TQ w wr N n (.slice (some ⟨b, off, none⟩) n cap) lv qs h) (fun _ i _ => 4 - (intOf i).toNat)
        case atStart => exact ⟨qs, h2, 0, by omega, rfl, H5.out.2, H5.out.1⟩
        case round =>
          clear H5
          obtain ⟨qs', h3, f, hf, rfl, hjq, hP⟩ := hrel
          obtain ⟨la', lc', rfl⟩ := ownsRow_form hP.own
          have HP := Lib.hid (And.intro hP hjq)
          have hlk' : qs'.length ≤ n := Nat.le_trans hP.cnt (nzc_le _ _)
          rcases Nat.lt_or_ge f 4 with hf4 | hf4
          · have hix := fun w => row_index G q f hf4 w
            unfold faceA at hix
            have hkk : 4 * q + f < 4 * G.n := by have := HNN.out.2; omega
            obtain ⟨T, hT⟩ : ∃ T, T = G.tet (4 * q + f) := ⟨_, rfl⟩
            rw [← hT] at hix
            rcases Int.lt_or_le T 0 with hT0 | hT0
            · have q1 : decide (0 ≤ T) = false := by simp; omega
              clear hP hT hjq
              go_wp2
              exact ⟨⟨qs', h3, f + 1, by omega, by simp, HP.out.2, HP.out.1.kept (World.grownBy_alloc _ _ _)⟩, by simp [intOf]; omega⟩
            · obtain ⟨e1, e2, e3⟩ := ok_face HG.out.1 hkk (by omega)
              obtain ⟨x, hx⟩ : ∃ x : Nat, T = (x : Int) ∧ x < n := ⟨G.T (4 * q + f), by rw [hT, e1], by have := HNN.out.2; omega⟩
              obtain ⟨rfl, hxk⟩ := hx
              have hpf := e3 f hf4
              obtain ⟨P, hPf⟩ : ∃ P : Nat, G.pm (4 * q + f) f = (P : Int) ∧ P < 4 := ⟨_, hpf.1, hpf.2⟩
              obtain ⟨nn, hmet⟩ := hP.met
              have okx : okI x := by show x < 9223372036854775808; omega
              have hlook : ∀ o, (Instr.lookup 182 (.map (some (N + 2))) (.int .i64 (x : Int)) false).run Try.prog (wr.alloc o) = .ok (.bool (!(h3 x == 0))) (wr.alloc o) := fun o => by
                have := (hmet.kept (World.grownBy_alloc wr o none) (by simp)).look codesI und182 (zero4 _) false x okx
                unfold mI at this
                rw [this]
                by_cases e : h3 x = 0 <;> simp [e]
              have HM := Lib.hid (fun o => hmet.kept (World.grownBy_alloc wr o none) (by simp))
              have q1 : decide (0 ≤ (x : Int)) = true := by simp
              have x0 : 0 ≤ (x : Int) := by omega
              have xk : (x : Int) < (n : Int) := by omega
              have HPF := Lib.hid hPf
              have hFA : ∀ j v, (fcells (x : Int) (G.pm (4 * q + f)))[j]? = some v → (wr.alloc (.cells (fcells (x : Int) (G.pm (4 * q + f))) 87)).cell? ⟨wr.heap.size, j, none⟩ = some v := fun j v hv => (World.cell?_alloc_at _ _ _ _ rfl).trans hv
              have HFA := Lib.hid hFA
              clear hP hT e1 e2 e3 hpf hPf hmet hjq hFA
              by_cases hh : h3 x = 0
              · have hb1 : (h3 x == 0) = true := by simp [hh]
                rw [hb1] at hlook
                have HH := Lib.hid hh
                clear hh hb1
                obtain ⟨j0, hj0, hz30, hz31, hz32⟩ := info_parts info3
                have hA2 : N + 2 < wr.heap.size := by
                  obtain ⟨nn2, h2⟩ := HP.out.1.met
                  exact h2.lt
                have hown := HP.out.1.own
                have nown : some wr.heap.size ≠ (Value.slice la' qs'.length lc').ownBlock := fun e => by have := (hown.lt _ e.symm).2; omega
                have fa0 := HFA.out 0 _ rfl
                have faf := HFA.out (1 + f) _ (fcells_at _ _ f hf4)
                rw [HPF.out.1] at faf
                have n2 : some wr.heap.size ≠ some (N + 2) := fun e => by have := Option.some.inj e; omega
                have n1 : some wr.heap.size ≠ some (N + 1) := fun e => by have := Option.some.inj e; omega
                have okq : okp (q, f) := ⟨by show q < 9223372036854775808; omega, by show f < 9223372036854775808; omega⟩
                have HO := Lib.hid (And.intro hown (And.intro nown (And.intro fa0 (And.intro faf (And.intro n2 n1)))))
                clear hown nown fa0 faf n2 n1
                have hjl9 := (List.getElem?_eq_some_iff.1 HP.out.2).1
                have hjb1 : (j : Int) < (qs'.length : Int) + 1 := by omega
                have hjb2 : (j : Int) < ((qs'.length + 1 : Nat) : Int) := by omega
                unfold fcells at HO
                go_wp2_with (first
                  | (refine wpList_put (a := x) (c := true) (κ := mI) (ν := Value.bool) rfl 182 (.tmp 46) (.tmp 48) (.const (.bool true)) rfl codesI und182 (HM.out _) okx rfl rfl rfl ?_; intro W3 m1 m2 m3; have y3 := m2.cell HO.out.2.2.1 HO.out.2.2.2.2.1; have H3 := Lib.hid (And.intro m1 (And.intro m2 m3)); clear m1 m2 m3)
                  | (at_builtin; refine (wpList_append_lies _ rfl (.tmp 49) (.tmp 52) 35 rfl (N + 3) 3 j0 _ 1 8 und35 hj0 hz30 hz31 hz32 rfl (by omega) (.slice la' qs'.length lc') qs'.length _ rfl (((HO.out.1.alloc _).kept H3.out.2.1 (.inr (fun e => by have := (HO.out.1.lt _ e).1; omega))).alloc _) ⟨W3.heap.size, 0, none⟩ 1 1 [.int .i64 (x : Int)] rfl rfl (World.news_of_block (cs := #[.int .i64 (x : Int)]) (MapKept.heap_alloc W3 _).1) (by simp [Value.oneCell']) (by omega) (by unfold maxLen; omega) (by omega) (by have := H3.out.2.1.size; simp at this ⊢; omega) (W3.heap.size + 1) (by simp) ?_); intro g9 c9 w9 r1 r2 r3 r4; have hQ9 := (HP.out.1.kept (World.grownBy_alloc wr _ none)).push hxk HH.out H3.out.1 H3.out.2.1 (World.grownBy_alloc W3 _ none) r1 r2; have y9 := r2.cell (cell_al y3 _) HO.out.2.1; have z9 := r2.cell (cell_al (H3.out.2.1.cell HO.out.2.2.2.1 HO.out.2.2.2.2.1) _) HO.out.2.1; obtain ⟨ge', ce', he', l9, -⟩ := hQ9.qcell (k := j) (q := q) (by rw [List.getElem?_append_left (List.getElem?_eq_some_iff.1 HP.out.2).1]; exact HP.out.2); obtain rfl := slice_blk he'; obtain ⟨nn9, D9, ho9⟩ := hQ9.out; have H9 := Lib.hid (And.intro hQ9 (And.intro y9 (And.intro z9 ho9))); clear r1 r2 r3 r4 hQ9 z9 ho9 he')
                  | (refine wpList_put (a := (q, f)) (c := true) (κ := kp) (ν := Value.bool) rfl 127 (.tmp 54) (.tmp 60) (.const (.bool true)) rfl codes83 und127 H9.out.2.2.2 okq rfl rfl rfl ?_; intro W6 p1 p2 p3; have HR := Lib.hid (And.intro (H9.out.1.outp p1 p2) (And.intro (p2.cell H9.out.2.1 HO.out.2.2.2.2.2) (p2.cell H9.out.2.2.1 HO.out.2.2.2.2.2))); clear p1 p2 p3))
                go_frame
                have y6 : W6.drew.cell? ⟨wr.heap.size, 0, none⟩ = some (.int .i64 (x : Int)) := HR.out.2.1
                have z6 : W6.drew.cell? ⟨wr.heap.size, 1 + f, none⟩ = some (.int .i64 (P : Int)) := HR.out.2.2
                obtain ⟨nn6, D6, ho6⟩ := HR.out.1.out
                have ho7 : MapIs W6.drew 83 okp kp Value.bool (N + 1) nn6 D6 := ho6.of_block rfl
                have okxp : okp (x, P) := ⟨by show x < 9223372036854775808; omega, by show P < 9223372036854775808; have := HPF.out.2; omega⟩
                have H7 := Lib.hid (And.intro (HR.out.1.kept (grownBy_drew _ none)) ho7)
                have f4 : (f : Int) < 4 := by omega
                have f0 : 0 ≤ (f : Int) := by omega
                clear ho6 ho7 l9 y9 y3 hjb1 hjb2
                refine region_tail2 8 (by kernel_rfl) (by kernel_rfl) (fun Q2 hQ2 => ?_)
                repeat (refine wpSt_step (fun K hK => ?_); go_simp; refine hK _ ?_; clear hK K)
                refine wpSt_nil (hQ2 _ ?_)
                clear hQ2 Q2
                simp only [List.drop_succ_cons, List.drop_zero]
                refine wpList_put (a := (x, P)) (c := true) (κ := kp) (ν := Value.bool) rfl 127 (.tmp 61) (.tmp 68) (.const (.bool true)) rfl codes83 und127 H7.out.2 okxp rfl rfl rfl ?_
                intro W7 p1 p2 p3
                have H8 := Lib.hid (H7.out.1.outp p1 p2)
                clear p1 p2 p3
                go_frame
                go_wp2
                go_roundw
                case rel => exact ⟨qs' ++ [x], _, f + 1, by omega, rfl, by rw [List.getElem?_append_left (List.getElem?_eq_some_iff.1 HP.out.2).1]; exact HP.out.2, by simpa using H8.out⟩
                case measure => simp [intOf]; omega
              · have hb1 : (h3 x == 0) = false := by simp [hh]
                rw [hb1] at hlook
                clear hh hb1
                go_wp2
                exact ⟨⟨qs', h3, f + 1, by omega, by simp, HP.out.2, HP.out.1.kept (World.grownBy_alloc _ _ _)⟩, by simp [intOf]; omega⟩
          · obtain rfl : f = 4 := by omega
            clear hP hjq
            go_wp2
            have := (List.getElem?_eq_some_iff.1 HP.out.2).1
            exact ⟨⟨qs', h3, j + 1, by omega, by simp, HP.out.1⟩, by simp [intOf]; omega⟩
      · obtain rfl : j = qs.length := by omega
        clear hP
        go_wp2
        go_ret
        obtain ⟨nn, D, hm⟩ := HP.out.out
        exact ⟨_, nn, D, rfl, hm, HP.out.bel⟩
end Go.Proofs.Ytlckpgahijlmoaa
