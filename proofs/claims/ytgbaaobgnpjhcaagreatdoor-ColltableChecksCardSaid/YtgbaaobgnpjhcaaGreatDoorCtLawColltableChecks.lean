/-
  Collation tables: from a plain contract to a row with laid variables.
-/
import Derived.Test.YtgbaaobgnpjhcaaGreatDoorCtR
import Derived.Test.YtgbaaobgnpjhcaaGreatDoorRows
import Derived.LaidLaws
import Derived.Deep.DeepLaidRun
import Derived.Handed
import Derived.ProofKit
import Derived.Test.YtgbaaobgnpjhcaaGreatDoorCards
import Derived.Test.YtgbaaobgnpjhcaaGreatDoorTie
import Derived.SevenTiedAt
set_option linter.all false
set_option linter.unusedSimpArgs false
set_option linter.unusedVariables false
section
namespace Go.Pv.Ct
open Go.Pv Go.ChangeShapes Go.WideShapes Go.ChangeAt Go.RowKit Go.Proofs Go.Proofs.YtgbaaobgnpjhcaaGreatDoor
set_option maxRecDepth 100000

def laidL : List (String × DataW Unit) := [("math/bits.deBruijn32tab", Rows.laid_math_bits_deBruijn32tab), ("math/bits.deBruijn64tab", Rows.laid_math_bits_deBruijn64tab), ("internal/strconv.uint64pow10", Rows.laid_internal_strconv_uint64pow10), ("unicodetext/ordering.ranges", Rows.laid_unicodetext_ordering_ranges)]
theorem laidOut : laidOutB Tryz.prog = true := by kernel_rfl
theorem own : ownKnob Tryz.prog.godebug = none := by kernel_rfl

/-- An array of numbers is what it reads as. -/
theorem arr_ints {H : Type} {enc : TypeId × Value → H} {P : Program} {w : World} {base : Nat} {sp : Nat → Bool} {held : Bool} {fuel n : Nat} {t et : TypeId} {k : IntKind} {cs : List Value} {zs : List Int} {p : List MemPlace}
    (ht : P.underlying t = some (.array n et)) (he : P.underlying et = some (.int k)) (hc : P.cellsOf et = 1) (hn : zs.length = n) (hct : P.cellsOf t = n)
    (h : DataW.trod enc P w base sp held fuel t cs = some (.agg (zs.map fun z => .lit (.int k z)), p)) : cs = zs.map fun z => .int k z := by
  obtain ⟨xs, m, _, hx, hl, hxl, hi⟩ := DataW.trod_array ht h
  injection hx with hx _
  injection hx with hx
  apply List.ext_getElem
  · rw [hl, hct, List.length_map, hn]
  · intro i h1 h2
    have hin : i < n := by rw [hl, hct] at h1; exact h1
    have h3 := hi i hin
    rw [hc, Nat.mul_one] at h3
    have h4 : (cs.drop i).take 1 = [cs[i]] := by rw [List.drop_eq_getElem_cons h1]; rfl
    rw [h4, show xs[i]? = some (xs[i]'(by omega)) from List.getElem?_eq_getElem _] at h3
    obtain ⟨s, e1, e2, _⟩ := DataW.trod_int he h3
    have h5 := congrArg (fun l => l[i]?) hx
    simp only [List.getElem?_map] at h5
    rw [show xs[i]? = some (xs[i]'(by omega)) from List.getElem?_eq_getElem _, show zs[i]? = some (zs[i]'(by omega)) from List.getElem?_eq_getElem _] at h5
    simp only [Option.map_some, Option.some.injEq] at h5
    rw [e2] at h5
    injection e1 with e1
    rw [e1, List.getElem_map]
    simpa using h5.symm
/-- An array of pairs of numbers. -/
theorem arr_pairs {H : Type} {enc : TypeId × Value → H} {P : Program} {w : World} {base : Nat} {sp : Nat → Bool} {held : Bool} {fuel : Nat} {t et it : TypeId} {k : IntKind} {cs : List Value} {a0 a1 b0 b1 c0 c1 d0 d1 : Int} {p : List MemPlace} {fs : Array Field} {x y : Field}
    (ht : P.underlying t = some (.array 4 et)) (he : P.underlying et = some (.struct fs)) (hfs : fs = #[x, y]) (hx0 : x.offset = 0) (hy1 : y.offset = 1) (hxt : x.type = it) (hyt : y.type = it) (hi : P.underlying it = some (.int k)) (hci : P.cellsOf it = 1) (hc : P.cellsOf et = 2) (hct : P.cellsOf t = 8)
    (h : DataW.trod enc P w base sp held fuel t cs = some (.agg [.agg [.lit (.int k a0), .lit (.int k a1)], .agg [.lit (.int k b0), .lit (.int k b1)], .agg [.lit (.int k c0), .lit (.int k c1)], .agg [.lit (.int k d0), .lit (.int k d1)]], p)) :
    cs = [.int k a0, .int k a1, .int k b0, .int k b1, .int k c0, .int k c1, .int k d0, .int k d1] := by
  subst hfs
  obtain ⟨xs, m, _, hx, hl, hxl, hxs⟩ := DataW.trod_array ht h
  injection hx with hx _
  injection hx with hx
  have pair : ∀ (u v : Value) (q : DataW H × List MemPlace) (n0 n1 : Int), q.1 = .agg [.lit (.int k n0), .lit (.int k n1)] → DataW.trod enc P w base sp held m et [u, v] = some q → u = .int k n0 ∧ v = .int k n1 := by
    intro u v q n0 n1 hq hd
    obtain ⟨ys, m', _, hy, _, hyl, hys⟩ := DataW.trod_struct he hd
    have e0 := hys 0 x rfl
    have e1 := hys 1 y rfl
    rw [hx0, hxt, hci] at e0
    rw [hy1, hyt, hci] at e1
    simp only [List.drop_zero, List.take_succ_cons, List.take_zero, List.drop_succ_cons] at e0 e1
    have l2 : ys.length = 2 := hyl
    obtain ⟨y0, y1, rfl⟩ : ∃ y0 y1, ys = [y0, y1] := by
      match ys, l2 with
      | [y0, y1], _ => exact ⟨y0, y1, rfl⟩
    obtain ⟨s0, f0, g0, _⟩ := DataW.trod_int hi e0
    obtain ⟨s1, f1, g1, _⟩ := DataW.trod_int hi e1
    rw [hy] at hq
    injection f0 with f0
    injection f1 with f1
    simp only [List.map_cons, List.map_nil, g0, g1] at hq
    simp at hq
    rw [f0, f1, hq.1, hq.2]
    exact ⟨rfl, rfl⟩
  rw [hct] at hl
  obtain ⟨u0, u1, u2, u3, u4, u5, u6, u7, rfl⟩ : ∃ u0 u1 u2 u3 u4 u5 u6 u7, cs = [u0, u1, u2, u3, u4, u5, u6, u7] := by
    match cs, hl with
    | [u0, u1, u2, u3, u4, u5, u6, u7], _ => exact ⟨u0, u1, u2, u3, u4, u5, u6, u7, rfl⟩
  obtain ⟨x0, x1, x2, x3, rfl⟩ : ∃ x0 x1 x2 x3, xs = [x0, x1, x2, x3] := by
    match xs, hxl with
    | [x0, x1, x2, x3], _ => exact ⟨x0, x1, x2, x3, rfl⟩
  simp only [List.map_cons, List.map_nil, List.cons.injEq, and_true] at hx
  have h0 := hxs 0 (by omega)
  have h1 := hxs 1 (by omega)
  have h2 := hxs 2 (by omega)
  have h3 := hxs 3 (by omega)
  rw [hc] at h0 h1 h2 h3
  obtain ⟨rfl, rfl⟩ := pair u0 u1 x0 a0 a1 hx.1.symm h0
  obtain ⟨rfl, rfl⟩ := pair u2 u3 x1 b0 b1 hx.2.1.symm h1
  obtain ⟨rfl, rfl⟩ := pair u4 u5 x2 c0 c1 hx.2.2.1.symm h2
  obtain ⟨rfl, rfl⟩ := pair u6 u7 x3 d0 d1 hx.2.2.2.symm h3
  rfl
theorem heap_of_var {P : Program} {W : World} {name : String} {g : Nat} {cs : Array Value} (hn : P.globalNamed name = some g) (h : W.var? P name = some cs) : ∃ e fz, W.heap[g]? = some (.cells cs e fz) := by
  unfold World.var? at h
  rw [hn] at h
  simp only [Option.bind_some] at h
  split at h
  · rename_i c e fz hh
    cases h
    exact ⟨e, fz, hh⟩
  · cases h

theorem rel_of_laid {W : World} (h : laidMet Tryz.prog laidL W) (ι : Nat → Value) : Rel GG (K0 W) ι [] W := by
  obtain ⟨ps, h1, _⟩ := h
  obtain ⟨_, _, _, _, _, _, _, _, _, _, ⟨_, _, _, _, _, _, _, _, _, _, ⟨g, t, cs, fuel, p, q, hg, ht, hv, hd, ⟨g', t', cs', fuel', p', q', hg', ht', hv', hd', _, _⟩, _⟩, _⟩, _⟩ := h1
  obtain rfl := Option.some.inj ((show Tryz.prog.globalNamed "internal/strconv.uint64pow10" = some 2 by kernel_rfl).symm.trans hg)
  obtain rfl := Option.some.inj ((show (Tryz.prog.globals[2]?).map (·.type) = some 208 by kernel_rfl).symm.trans ht)
  obtain rfl := Option.some.inj ((show Tryz.prog.globalNamed "unicodetext/ordering.ranges" = some 0 by kernel_rfl).symm.trans hg')
  obtain rfl := Option.some.inj ((show (Tryz.prog.globals[0]?).map (·.type) = some 168 by kernel_rfl).symm.trans ht')
  have hd1 : DataW.trod (fun _ => ()) Tryz.prog W 0 (fun _ => true) false fuel 208 cs.toList = some (.agg (Lib.pow10Tab.map fun z => .lit (.int .u64 z)), p) := hd
  have c1 := arr_ints (k := .u64) Tryz.underlying208 Tryz.underlying192 (by kernel_rfl) Lib.pow10Tab_length (by kernel_rfl) hd1
  have c2 := arr_pairs Tryz.underlying168 Tryz.underlying119 rfl rfl rfl rfl rfl Tryz.underlying3 (by kernel_rfl) (by kernel_rfl) (by kernel_rfl) hd'
  obtain ⟨e1, fz1, w1⟩ := heap_of_var hg hv
  obtain ⟨e2, fz2, w2⟩ := heap_of_var hg' hv'
  refine rel1 ι W (fun g => ?_)
  by_cases g0 : g = 0
  · subst g0
    refine .inr ⟨rangesV, cs', e2, fz2, rfl, w2, ?_, fun i p hp => ?_⟩
    · rw [← Array.length_toList, c2]; rfl
    · have hi : i < 8 := (List.getElem?_eq_some_iff.1 hp).1
      rw [← Array.getElem?_toList, c2]
      match i, hi, hp with
      | 0, _, hp => cases hp; exact ⟨_, rfl, rfl, .int _ _⟩
      | 1, _, hp => cases hp; exact ⟨_, rfl, rfl, .int _ _⟩
      | 2, _, hp => cases hp; exact ⟨_, rfl, rfl, .int _ _⟩
      | 3, _, hp => cases hp; exact ⟨_, rfl, rfl, .int _ _⟩
      | 4, _, hp => cases hp; exact ⟨_, rfl, rfl, .int _ _⟩
      | 5, _, hp => cases hp; exact ⟨_, rfl, rfl, .int _ _⟩
      | 6, _, hp => cases hp; exact ⟨_, rfl, rfl, .int _ _⟩
      | 7, _, hp => cases hp; exact ⟨_, rfl, rfl, .int _ _⟩
      | i + 8, hi, _ => omega
  by_cases g2 : g = 2
  · subst g2
    refine .inr ⟨pow10V, cs, e1, fz1, rfl, w1, ?_, fun i p hp => ?_⟩
    · rw [← Array.length_toList, c1]; simp [pow10V]
    · rw [← Array.getElem?_toList, c1, List.getElem?_map]
      unfold pow10V at hp
      rw [List.getElem?_map] at hp
      obtain ⟨z, hz, rfl⟩ := Option.map_eq_some_iff.1 hp
      rw [hz]
      exact ⟨_, rfl, rfl, .int _ _⟩
  · left
    show (if g = 0 then PV.rptr rangesV else if g = 2 then PV.rptr pow10V else .bad) = .bad
    rw [if_neg g0, if_neg g2]

def withCells (h : Array Go.Obj) (b : Nat) (cs : Array Value) : Array Go.Obj := h.modify b fun
  | .cells _ t frozen => .cells cs t frozen
  | o => o
/-- The world at the start, the four variables laid. -/
noncomputable def laidWorld (os : Os) : World :=
  let w0 := World.holding Tryz.prog os ⟨#[], #[], []⟩
  { w0 with heap := withCells (withCells (withCells (withCells w0.heap 0 #[.int .i64 4352, .int .i64 4370, .int .i64 4449, .int .i64 4469, .int .i64 4520, .int .i64 4546, .int .i64 44032, .int .i64 55203]) 2 #[.int .u64 1, .int .u64 10, .int .u64 100, .int .u64 1000, .int .u64 10000, .int .u64 100000, .int .u64 1000000, .int .u64 10000000, .int .u64 100000000, .int .u64 1000000000, .int .u64 10000000000, .int .u64 100000000000, .int .u64 1000000000000, .int .u64 10000000000000, .int .u64 100000000000000, .int .u64 1000000000000000, .int .u64 10000000000000000, .int .u64 100000000000000000, .int .u64 1000000000000000000, .int .u64 10000000000000000000]) 3 #[.int .u8 0, .int .u8 1, .int .u8 28, .int .u8 2, .int .u8 29, .int .u8 14, .int .u8 24, .int .u8 3, .int .u8 30, .int .u8 22, .int .u8 20, .int .u8 15, .int .u8 25, .int .u8 17, .int .u8 4, .int .u8 8, .int .u8 31, .int .u8 27, .int .u8 13, .int .u8 23, .int .u8 21, .int .u8 19, .int .u8 16, .int .u8 7, .int .u8 26, .int .u8 12, .int .u8 18, .int .u8 6, .int .u8 11, .int .u8 5, .int .u8 10, .int .u8 9]) 4 #[.int .u8 0, .int .u8 1, .int .u8 56, .int .u8 2, .int .u8 57, .int .u8 49, .int .u8 28, .int .u8 3, .int .u8 61, .int .u8 58, .int .u8 42, .int .u8 50, .int .u8 38, .int .u8 29, .int .u8 17, .int .u8 4, .int .u8 62, .int .u8 47, .int .u8 59, .int .u8 36, .int .u8 45, .int .u8 43, .int .u8 51, .int .u8 22, .int .u8 53, .int .u8 39, .int .u8 33, .int .u8 30, .int .u8 24, .int .u8 18, .int .u8 12, .int .u8 5, .int .u8 63, .int .u8 55, .int .u8 48, .int .u8 27, .int .u8 60, .int .u8 41, .int .u8 37, .int .u8 16, .int .u8 46, .int .u8 35, .int .u8 44, .int .u8 21, .int .u8 52, .int .u8 32, .int .u8 23, .int .u8 11, .int .u8 54, .int .u8 26, .int .u8 40, .int .u8 15, .int .u8 34, .int .u8 20, .int .u8 31, .int .u8 10, .int .u8 25, .int .u8 14, .int .u8 19, .int .u8 9, .int .u8 13, .int .u8 8, .int .u8 7, .int .u8 6] }
theorem laid_met (os : Os) (args : Array Value) : laidMet Tryz.prog laidL ((laidWorld os).forCall (fun _ _ => 0) ⟨#[], args, []⟩).memory :=
  laidMet_of_run3 8 (by kernel_rfl) (by kernel_rfl) (by kernel_rfl)

/-- A structure that came in. -/
theorem arg_struct {H : Type} {enc : TypeId × Value → H} {P : Program} {W : World} {base : Nat} {t : TypeId} {fs : Array Field} {v : Value} {d : DataW H} {ps : List MemPlace} {sp : Nat → Bool} {held : Bool} {sh : Sh} (hok : sh.okB P t = true) (hu : P.underlying t = some (.struct fs))
    (hv : Value.okWide P W .any base t v) (h : DataW.Trod enc P W 0 sp held t v d ps) : ∃ qs, sh.Typed qs ∧ TRel (K0 W) (.agg qs) v := by
  obtain ⟨cs, rfl, _⟩ := okWide_struct hu hv
  obtain ⟨fuel, hf⟩ := h
  obtain ⟨qs, h1, h2, h3, h4⟩ := open_sh sh t fuel _ _ hok hf
  refine ⟨qs, h1, .agg qs cs (by simpa [Value.cells] using h2) (fun i v hv => h3 v ?_) (fun i p v hp hv => h4 i p v hp ?_)⟩
  · simpa [Value.cells] using Array.mem_of_getElem? hv
  · simpa [Value.cells] using hv
end Go.Pv.Ct
end
section
namespace Go.Proofs.YtgbaaobgnpjhcaaGreatDoor.colltableChecks
open Go Go.ChangeShapes Go.WideShapes Go.ChangeAt Go.RowKit Go.Pv Go.Pv.Ct
set_option maxRecDepth 100000
theorem lifted (os : Os) (started : os.Started) (H : Type) (enc : TypeId × Value → H) :
    ReturnsInHanded {} Tryz.checked os 3 .any (fun w args => (Rows.colltableChecksSpec.pre enc Tryz.prog Tryz.f3 Rows.colltableChecksRow.domain false w args ∧ laidMet Tryz.prog Rows.colltableChecksRow.laid w) ∧ sizedMet enc Tryz.prog Tryz.f3 (OpenSpec.ofChange Rows.colltableChecksSpec) false w args)
      (Rows.colltableChecksSpec.post enc Tryz.prog Tryz.f3 false true false false) := by
  refine returnsInHanded_of_change_and (C := Tryz.checked) (X := fun w _ => laidMet Tryz.prog Rows.colltableChecksRow.laid w) (fun _ _ _ hh h => h.of_heap hh) own started (by kernel_rfl) Tryz.func3
    (ChangeSpec.witness_at (enc := enc) (C := Tryz.checked) (os := os) (X := fun w _ => laidMet Tryz.prog Rows.colltableChecksRow.laid w) false (laidWorld os) #[.agg #[.slice none 0 0, .slice none 0 0, .int .i64 0, .int .i64 0, .int .i64 0]] 8 rfl (by kernel_rfl) (by kernel_rfl) (by kernel_rfl) (by kernel_rfl) (by kernel_rfl) (laid_met os _)) ?_
  intro W base args ds gs before hval0 hW hcnd _ hL _
  have hval : ∀ (j : Nat) t v, Tryz.f3.params[j]? = some t → args[j]? = some v → Value.okWide Tryz.prog W .any base t v := hval0
  have hW' := hW
  obtain ⟨p, q, hA0, hV, rfl, hfz, hnd⟩ := hW
  have hA : DataW.TrodAll enc Tryz.prog W 0 (fun _ => true) true Tryz.f3.params.toList args.toList ds p := hA0
  rw [Tryz.params3] at hA hval
  obtain ⟨v0, vs0, d0, ds0, p0, q0, hargs, rfl, rfl, h0, r0⟩ := trodAll_cons hA
  obtain ⟨rfl, rfl, rfl⟩ := trodAll_nil r0
  obtain rfl : args = #[v0] := by cases args; simp_all
  obtain ⟨rfl, rfl⟩ := trodVars_none hV
  have k0 := h0
  have lt0 : ∀ x ∈ p0, x.block < W.heap.size := by obtain ⟨m, hm⟩ := k0; exact DataW.trod_lt m _ _ _ hm
  obtain ⟨ps0, ty0, rel0⟩ := arg_struct shColl_ok Tryz.underlying25 (hval 0 25 v0 rfl rfl) h0
  obtain ⟨x0, rfl, o0⟩ := coll_of ty0
  clear hA0 hval0
  refine (plain_calls1 (E := EE) (checks_plain x0 o0.fits) (rel_of_laid hL _) rfl (fun i p u hp hu => ?_)).mono fun e W' ⟨he, bel⟩ => ?_
  · match i, hp, hu with
    | 0, hp, hu => simp at hp hu; subst hp hu; exact rel0
    | i + 1, hp, hu => simp at hp
  · subst he
    exact ⟨_, rfl, _, _, _, [], _, [], hW', trodAll_mk1 (shut_bool Tryz.underlying4 _), (trodAll_cons_mk (Below.trod laidOut (by kernel_rfl) (of_decide_eq_true (by kernel_rfl)) k0 bel lt0) trodAll_mk0), rfl, bel.frame _, fun h => by cases h⟩
theorem over : Rows.colltableChecksRow.holds Tryz.pinned (OpenSpec.ofChange Rows.colltableChecksSpec) :=
  OpenClaim.holds_of_wide 3 Tryz.f3 rfl rfl rfl rfl rfl rfl rfl ⟨rfl, rfl, rfl, rfl, rfl⟩ rfl rfl rfl rfl rfl (by kernel_rfl) Tryz.func3 (by kernel_rfl)
    (of_decide_eq_true (by kernel_rfl)) (by unfold Func.isWrapper; first | (rw [if_pos (by decide +kernel)]; kernel_rfl) | (rw [if_neg (by decide +kernel)]; exact ⟨rfl, rfl⟩))
    (fun os started H enc _ => lifted os started H enc)
theorem card : Rows.ColltableChecksCardSaid :=
  Claim7.holds_tied_plain_at .later [] [.data, .data, .data, .data] true Rows.colltableChecksCard.stood.harness false
    over (fun _ h => by cases h) (by kernel_rfl) (fun _ h => by cases h) colltableChecks_row_tie rfl ⟨rfl, rfl⟩ (by kernel_rfl) rfl
    (fun f fn hf hfn => by
      obtain rfl : f = 3 := Option.some.inj ((show Tryz.prog.funcNamed "unicodetext/unicodetextlaw43.ColltableChecks" = some 3 by kernel_rfl).symm.trans hf) |>.symm
      obtain rfl : fn = Tryz.f3 := (Option.some.inj (Tryz.func3.symm.trans hfn)).symm
      exact ⟨by kernel_rfl, fun j t ht => by
        rw [Tryz.params3] at ht
        have hall : [25].all (fun t => !Tryz.prog.wantsStandIn t) = true := by kernel_rfl
        have hm : t ∈ ([25] : List Nat) := by
          obtain ⟨hj, rfl⟩ := Array.getElem?_eq_some_iff.1 ht
          simpa using Array.getElem_mem hj
        have := List.all_eq_true.1 hall t hm
        have e : Tryz.prog.wantsStandIn t = false := by simpa using this
        exact e⟩)
    (by kernel_rfl)
end Go.Proofs.YtgbaaobgnpjhcaaGreatDoor.colltableChecks
namespace Go.Proofs.YtgbaaobgnpjhcaaGreatDoor
/-- The tied card, under a short name, for the claim. -/
theorem colltableChecksCard_holds : Rows.ColltableChecksCardSaid := colltableChecks.card
#print axioms colltableChecksCard_holds
end Go.Proofs.YtgbaaobgnpjhcaaGreatDoor
end
