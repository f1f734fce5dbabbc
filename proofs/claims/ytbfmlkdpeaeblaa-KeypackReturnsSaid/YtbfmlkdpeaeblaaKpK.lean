/-
  Keypack (11): what the laws say, in plain terms: undoing, order, bytes, runs.
-/
import Derived.Test.YtbfmlkdpeaeblaaKpJ
set_option linter.all false
set_option linter.unusedSimpArgs false
set_option linter.unusedVariables false
namespace Go.Pv.Kp
open Go.Pv
/-! ### Undoing -/
theorem weight_same {n : Int} (h : 0 ≤ n ∧ n ≤ 65535) : weight n = n := by unfold weight; rw [if_neg (by omega)]
theorem plainL_range (l : List Int) : ∀ x ∈ plainL l, 0 ≤ x ∧ x ≤ 65535 := by
  intro x hx
  unfold plainL at hx
  rw [List.mem_map] at hx
  obtain ⟨n, _, rfl⟩ := hx
  exact weight_range n
theorem plainL_same : ∀ {l : List Int}, (∀ x ∈ l, 0 ≤ x ∧ x ≤ 65535) → plainL l = l
  | [], _ => rfl
  | n :: l, h => by
    unfold plainL
    rw [List.map_cons, weight_same (h n (by simp))]
    exact congrArg _ (plainL_same fun x hx => h x (by simp [hx]))
theorem unRep {m : Int} (q : Nat) : (List.replicate q (m + 7)).flatMap (unOne m) = List.replicate (8 * q) m := by
  induction q with
  | zero => rfl
  | succ q ih =>
    have h8 : unOne m (m + 7) = List.replicate 8 m := by
      unfold unOne
      rw [if_neg (by omega), if_neg (by omega), if_pos (by omega), show m + 7 - m + 1 = 8 by omega]
      rfl
    rw [List.replicate_succ, List.flatMap_cons, ih, h8, List.replicate_append_replicate]
    congr 1
    omega
theorem unEmit {m : Int} (c : Nat) (n : Int) (en : Bool) (hn : n ≠ m) : (emit m (c, n, en)).flatMap (unOne m) = List.replicate c m ++ (if en = true then [] else [n]) := by
  unfold emit
  have last : (if en = true then [] else if n < m then [n] else [n + 14] : List Int).flatMap (unOne m) = if en = true then [] else [n] := by
    cases en with
    | true => rfl
    | false =>
      simp only [Bool.false_eq_true, if_false]
      by_cases h : n < m
      · rw [if_pos h]; simp [unOne, h]
      · rw [if_neg h]
        simp only [List.flatMap_cons, List.flatMap_nil, List.append_nil, unOne]
        rw [if_neg (by omega), if_pos (by omega), show n + 14 - 14 = n by omega]
  have mid : (if c % 8 > 0 then (if en = true ∨ n < m then [m + (c % 8 : Nat) - 1] else [m + 15 - (c % 8 : Nat)]) else [] : List Int).flatMap (unOne m) = List.replicate (c % 8) m := by
    have h8 : c % 8 < 8 := Nat.mod_lt _ (by omega)
    by_cases h : c % 8 > 0
    · rw [if_pos h]
      split
      · simp only [List.flatMap_cons, List.flatMap_nil, List.append_nil, unOne]
        rw [if_neg (by omega), if_neg (by omega), if_pos (by omega), show (m + (c % 8 : Nat) - 1 - m + 1) = ((c % 8 : Nat) : Int) by omega, Int.toNat_natCast]
      · simp only [List.flatMap_cons, List.flatMap_nil, List.append_nil, unOne]
        rw [if_neg (by omega), if_neg (by omega), if_neg (by omega), show (m + 15 - (m + 15 - (c % 8 : Nat))) = ((c % 8 : Nat) : Int) by omega, Int.toNat_natCast]
    · rw [if_neg h, show c % 8 = 0 by omega]; rfl
  simp only [List.flatMap_append]
  rw [unRep, mid, last, List.replicate_append_replicate, show 8 * (c / 8) + c % 8 = c by omega]
theorem unRuns (m : Int) : ∀ (l : List Int) (c : Nat), m ≠ 0 → ((runsL m c l).flatMap (emit m)).flatMap (unOne m) = List.replicate c m ++ plainL l
  | [], c, h => by
    simp only [runsL, List.flatMap_cons, List.flatMap_nil, List.append_nil]
    rw [unEmit c 0 true (by omega)]
    rfl
  | n :: l, c, h => by
    unfold runsL
    split
    · rename_i e
      rw [unRuns m l (c + 1) h, show plainL (n :: l) = m :: plainL l by unfold plainL; rw [List.map_cons, e], List.replicate_succ', List.append_assoc]
      rfl
    · rename_i e
      rw [List.flatMap_cons, List.flatMap_append, unEmit c _ false e, unRuns m l 0 h, show plainL (n :: l) = weight n :: plainL l by rfl]
      simp
theorem okEmit {m : Int} (hm : 1 ≤ m ∧ m ≤ 65535) (c : Nat) (n : Int) (en : Bool) (hn : 0 ≤ n ∧ n ≤ 65535) : (emit m (c, n, en)).all unOk = true := by
  rw [List.all_eq_true]
  intro x hx
  unfold unOk
  rw [decide_eq_true_eq]
  have h8 : c % 8 < 8 := Nat.mod_lt _ (by omega)
  unfold emit at hx
  simp only [List.mem_append] at hx
  rcases hx with (hx | hx) | hx
  · have := List.eq_of_mem_replicate hx; omega
  · split at hx
    · split at hx
      · simp at hx; omega
      · simp at hx; omega
    · cases hx
  · split at hx
    · cases hx
    · split at hx
      · simp at hx; omega
      · simp at hx; omega
theorem okRuns {m : Int} (hm : 1 ≤ m ∧ m ≤ 65535) : ∀ (l : List Int) (c : Nat), ((runsL m c l).flatMap (emit m)).all unOk = true
  | [], c => by
    simp only [runsL, List.flatMap_cons, List.flatMap_nil, List.append_nil]
    exact okEmit hm c 0 true (by omega)
  | n :: l, c => by
    unfold runsL
    split
    · exact okRuns hm l (c + 1)
    · rw [List.flatMap_cons, List.all_append, okEmit hm c _ false (weight_range n), okRuns hm l 0]; rfl
theorem runs_plain (m : Int) : ∀ (l : List Int) (c : Nat), runsL m c (plainL l) = runsL m c l
  | [], c => rfl
  | n :: l, c => by
    rw [show plainL (n :: l) = weight n :: plainL l by rfl]
    unfold runsL
    rw [weight_same (weight_range n), runs_plain m l, runs_plain m l]
theorem unpack_pack (cm : Int) (l : List Int) : unL (number cm) (packL cm l) = some (plainL l) := by
  have hm := number_range cm
  unfold unL packL
  rw [if_pos (okRuns hm l 0), unRuns (number cm) l 0 (by omega)]
  rfl
theorem unpackR_pack (cm : Int) (l : List Int) : unpackR cm (packL cm l) = some (plainL l) := by
  unfold unpackR
  rw [unpack_pack]
  simp only
  rw [if_pos (by unfold packL; rw [runs_plain])]
theorem emit_le (m : Int) (c : Nat) (n : Int) (en : Bool) : (emit m (c, n, en)).length ≤ c + (if en = true then 0 else 1) := by
  unfold emit
  have h8 : c % 8 < 8 := Nat.mod_lt _ (by omega)
  simp only [List.length_append, List.length_replicate]
  cases en
  · simp only [Bool.false_eq_true, if_false, false_or]
    repeat' split
    all_goals simp
    all_goals omega
  · simp only [if_true, true_or]
    split
    all_goals simp
    all_goals omega
theorem runs_le (m : Int) : ∀ (l : List Int) (c : Nat), ((runsL m c l).flatMap (emit m)).length ≤ c + l.length
  | [], c => by
    have := emit_le m c 0 true
    simpa [runsL] using this
  | n :: l, c => by
    unfold runsL
    split
    · have := runs_le m l (c + 1)
      rw [List.length_cons]; omega
    · have h1 := emit_le m c (weight n) false
      have h2 := runs_le m l 0
      simp only [Bool.false_eq_true, if_false] at h1
      rw [List.flatMap_cons, List.length_append, List.length_cons]; omega
theorem pack_le (cm : Int) (l : List Int) : (packL cm l).length ≤ l.length := by
  have := runs_le (number cm) l 0
  unfold packL; omega

/-! ### The order is kept -/
theorem cmpL_app : ∀ (p a b : List Int), cmpL (p ++ a) (p ++ b) = cmpL a b
  | [], a, b => rfl
  | x :: p, a, b => by simp only [List.cons_append, cmpL, if_neg (show ¬ x < x by omega), if_neg (show ¬ x > x by omega)]; exact cmpL_app p a b
theorem cmpL_flip : ∀ (a b : List Int), cmpL b a = - cmpL a b
  | [], [] => by simp [cmpL]
  | [], _ :: _ => by simp [cmpL]
  | _ :: _, [] => by simp [cmpL]
  | x :: a, y :: b => by
    have ih := cmpL_flip a b
    simp only [cmpL]
    repeat' split
    all_goals omega
/-- The packed list, with 'c' common numbers in front. -/
def pk (m : Int) (c : Nat) (l : List Int) : List Int := (runsL m c l).flatMap (emit m)
theorem emit8 (m : Int) (c : Nat) (x : Int × Bool) : emit m (c + 8, x) = (m + 7) :: emit m (c, x) := by
  unfold emit
  simp only [show (c + 8) / 8 = c / 8 + 1 by omega, show (c + 8) % 8 = c % 8 by omega, List.replicate_succ, List.cons_append]
theorem pk8 (m : Int) : ∀ (l : List Int) (c : Nat), pk m (c + 8) l = (m + 7) :: pk m c l
  | [], c => by
    simp only [pk, runsL, List.flatMap_cons, List.flatMap_nil, List.append_nil, emit8]
  | n :: l, c => by
    unfold pk runsL
    split
    · have := pk8 m l (c + 1)
      unfold pk at this
      rw [show c + 8 + 1 = c + 1 + 8 by omega]; exact this
    · rw [List.flatMap_cons, emit8, List.flatMap_cons, List.cons_append]
theorem pk_nil (m : Int) (r : Nat) (hr : r < 8) : pk m r [] = if r > 0 then [m + r - 1] else [] := by
  simp only [pk, runsL, List.flatMap_cons, List.flatMap_nil, List.append_nil, emit, true_or, if_true, Nat.div_eq_of_lt hr, Nat.mod_eq_of_lt hr, List.replicate_zero, List.nil_append]
theorem pk_low (m : Int) (r : Nat) (hr : r < 8) (x : Int) (xs : List Int) (hx : 1 ≤ x ∧ x ≤ 65535) (h : x < m) : pk m r (x :: xs) = (if r > 0 then [m + r - 1] else []) ++ x :: pk m 0 xs := by
  unfold pk
  rw [runsL, weight_same (by omega), if_neg (by omega)]
  simp only [List.flatMap_cons, emit, h, or_true, if_true, Nat.div_eq_of_lt hr, Nat.mod_eq_of_lt hr, List.replicate_zero, List.nil_append, Bool.false_eq_true, if_false, List.append_assoc, List.cons_append]
theorem pk_high (m : Int) (r : Nat) (hr : r < 8) (x : Int) (xs : List Int) (hx : 1 ≤ x ∧ x ≤ 65535) (h : x > m) : pk m r (x :: xs) = (if r > 0 then [m + 15 - r] else []) ++ (x + 14) :: pk m 0 xs := by
  unfold pk
  rw [runsL, weight_same (by omega), if_neg (by omega)]
  have h' : ¬ x < m := by omega
  simp only [List.flatMap_cons, emit, h', or_false, if_true, Nat.div_eq_of_lt hr, Nat.mod_eq_of_lt hr, List.replicate_zero, List.nil_append, Bool.false_eq_true, if_false, List.append_assoc, List.cons_append]
theorem pk_same (m : Int) (r : Nat) (xs : List Int) (hm : 1 ≤ m ∧ m ≤ 65535) : pk m r (m :: xs) = pk m (r + 1) xs := by
  unfold pk
  rw [runsL, weight_same (by omega), if_pos rfl]
theorem pk_head (m : Int) (hm : 1 ≤ m ∧ m ≤ 65535) : ∀ (xs : List Int) (r : Nat), r < 8 → (∀ x ∈ xs, 1 ≤ x ∧ x ≤ 65535) → ∃ h t, pk m (r + 1) xs = h :: t ∧ m + r ≤ h ∧ h ≤ m + 14 - r
  | xs, 7, _, _ => ⟨m + 7, pk m 0 xs, pk8 m xs 0, by omega, by omega⟩
  | [], r, hr, _ => by
    by_cases h7 : r = 7
    · subst h7; exact ⟨m + 7, pk m 0 [], pk8 m [] 0, by omega, by omega⟩
    · rw [pk_nil m (r + 1) (by omega), if_pos (by omega)]
      exact ⟨_, [], rfl, by omega, by omega⟩
  | x :: xs, r, hr, hx => by
    by_cases h7 : r = 7
    · subst h7; exact ⟨m + 7, pk m 0 (x :: xs), pk8 m _ 0, by omega, by omega⟩
    · have h0 := hx x (by simp)
      by_cases c1 : x < m
      · rw [pk_low m (r + 1) (by omega) x xs h0 c1, if_pos (by omega)]
        exact ⟨_, _, rfl, by omega, by omega⟩
      · by_cases c2 : x > m
        · rw [pk_high m (r + 1) (by omega) x xs h0 c2, if_pos (by omega)]
          exact ⟨_, _, rfl, by omega, by omega⟩
        · have : x = m := by omega
          subst this
          rw [pk_same x (r + 1) xs hm]
          obtain ⟨h, t, e, a, b⟩ := pk_head x hm xs (r + 1) (by omega) fun y hy => hx y (by simp [hy])
          exact ⟨h, t, e, by omega, by omega⟩
theorem cmpL_lt {x y : Int} {a b : List Int} (h : x < y) : cmpL (x :: a) (y :: b) = -1 := by rw [cmpL, if_pos h]
/-- The end, in front of any number. -/
theorem pk_end (m : Int) (hm : 1 ≤ m ∧ m ≤ 65535) (r : Nat) (hr : r < 8) (y : Int) (ys : List Int) (hy : ∀ z ∈ y :: ys, 1 ≤ z ∧ z ≤ 65535) : cmpL (pk m r []) (pk m r (y :: ys)) = -1 := by
  have h0 := hy y (by simp)
  rw [pk_nil m r hr]
  by_cases c1 : y < m
  · rw [pk_low m r hr y ys h0 c1]
    have := cmpL_app (if r > 0 then [m + r - 1] else []) [] (y :: pk m 0 ys)
    rw [List.append_nil] at this
    rw [this]; rfl
  · by_cases c2 : y > m
    · rw [pk_high m r hr y ys h0 c2]
      by_cases hr0 : r > 0
      · rw [if_pos hr0, if_pos hr0]; exact cmpL_lt (by omega)
      · rw [if_neg hr0, if_neg hr0]; rfl
    · have : y = m := by omega
      subst this
      rw [pk_same y r ys hm]
      obtain ⟨h, t, e, a, b⟩ := pk_head y hm ys r hr fun z hz => hy z (by simp [hz])
      rw [e]
      by_cases hr0 : r > 0
      · rw [if_pos hr0]; exact cmpL_lt (by omega)
      · rw [if_neg hr0]; rfl
/-- A number, in front of a greater one. -/
theorem pk_less (m : Int) (hm : 1 ≤ m ∧ m ≤ 65535) (r : Nat) (hr : r < 8) (x y : Int) (xs ys : List Int) (hx : ∀ z ∈ x :: xs, 1 ≤ z ∧ z ≤ 65535) (hy : ∀ z ∈ y :: ys, 1 ≤ z ∧ z ≤ 65535) (hxy : x < y) : cmpL (pk m r (x :: xs)) (pk m r (y :: ys)) = -1 := by
  have h0 := hx x (by simp)
  have h1 := hy y (by simp)
  by_cases a1 : x < m
  · rw [pk_low m r hr x xs h0 a1]
    by_cases c1 : y < m
    · rw [pk_low m r hr y ys h1 c1, cmpL_app]; exact cmpL_lt hxy
    · by_cases c2 : y > m
      · rw [pk_high m r hr y ys h1 c2]
        by_cases hr0 : r > 0
        · rw [if_pos hr0, if_pos hr0]; exact cmpL_lt (by omega)
        · rw [if_neg hr0, if_neg hr0]; exact cmpL_lt (by omega)
      · have : y = m := by omega
        subst this
        rw [pk_same y r ys hm]
        obtain ⟨h, t, e, a, b⟩ := pk_head y hm ys r hr fun z hz => hy z (by simp [hz])
        rw [e]
        by_cases hr0 : r > 0
        · rw [if_pos hr0]; exact cmpL_lt (by omega)
        · rw [if_neg hr0]; exact cmpL_lt (by omega)
  · have c2 : y > m := by omega
    rw [pk_high m r hr y ys h1 c2]
    by_cases a2 : x > m
    · rw [pk_high m r hr x xs h0 a2, cmpL_app]; exact cmpL_lt (by omega)
    · have : x = m := by omega
      subst this
      rw [pk_same x r xs hm]
      obtain ⟨h, t, e, a, b⟩ := pk_head x hm xs r hr fun z hz => hx z (by simp [hz])
      rw [e]
      by_cases hr0 : r > 0
      · rw [if_pos hr0]; exact cmpL_lt (by omega)
      · rw [if_neg hr0]; exact cmpL_lt (by omega)
theorem pk_any {m : Int} {a b : List Int} {v : Int} (h : ∀ r, r < 8 → cmpL (pk m r a) (pk m r b) = v) (c : Nat) : cmpL (pk m c a) (pk m c b) = v := by
  induction c using Nat.strongRecOn with
  | _ c ih =>
    by_cases hc : c < 8
    · exact h c hc
    · obtain ⟨d, rfl⟩ : ∃ d, c = d + 8 := ⟨c - 8, by omega⟩
      rw [pk8, pk8, cmpL, if_neg (by omega), if_neg (by omega)]
      exact ih d (by omega)
theorem pk_order (m : Int) (hm : 1 ≤ m ∧ m ≤ 65535) : ∀ (a b : List Int), (∀ z ∈ a, 1 ≤ z ∧ z ≤ 65535) → (∀ z ∈ b, 1 ≤ z ∧ z ≤ 65535) → ∀ c, cmpL (pk m c a) (pk m c b) = cmpL a b
  | [], [], _, _, c => by
    have := cmpL_app (pk m c []) [] []
    rw [List.append_nil] at this
    exact this
  | [], y :: ys, _, hy, c => pk_any (fun r hr => pk_end m hm r hr y ys hy) c
  | x :: xs, [], hx, _, c => pk_any (fun r hr => by rw [cmpL_flip (pk m r []), pk_end m hm r hr x xs hx]; rfl) c
  | x :: xs, y :: ys, hx, hy, c => by
    refine pk_any (fun r hr => ?_) c
    by_cases c1 : x < y
    · rw [pk_less m hm r hr x y xs ys hx hy c1, cmpL, if_pos c1]
    · by_cases c2 : x > y
      · rw [cmpL_flip (pk m r (y :: ys)), pk_less m hm r hr y x ys xs hy hx c2, cmpL, if_neg c1, if_pos c2]; rfl
      · have : x = y := by omega
        subst this
        have ih := pk_order m hm xs ys (fun z hz => hx z (by simp [hz])) (fun z hz => hy z (by simp [hz]))
        rw [cmpL, if_neg c1, if_neg c2]
        by_cases a1 : x < m
        · rw [pk_low m r hr x xs (hx x (by simp)) a1, pk_low m r hr x ys (hx x (by simp)) a1, cmpL_app, cmpL, if_neg c1, if_neg c2]
          exact ih 0
        · by_cases a2 : x > m
          · rw [pk_high m r hr x xs (hx x (by simp)) a2, pk_high m r hr x ys (hx x (by simp)) a2, cmpL_app, cmpL, if_neg (by omega), if_neg (by omega)]
            exact ih 0
          · have : x = m := by omega
            subst this
            rw [pk_same x r xs hm, pk_same x r ys hm]
            exact ih (r + 1)
theorem pack_order (cm : Int) (a b : List Int) (ha : ∀ z ∈ a, 1 ≤ z ∧ z ≤ 65535) (hb : ∀ z ∈ b, 1 ≤ z ∧ z ≤ 65535) : cmpL (packL cm a) (packL cm b) = cmpL a b :=
  pk_order (number cm) (number_range cm) a b ha hb 0

/-! ### Numbers as bytes, and their order -/
theorem vb_bytes (n : Int) : ∀ x ∈ vb n, 0 ≤ x ∧ x ≤ 255 := by
  intro x hx
  have : ∀ k : Int, 0 ≤ b8 k ∧ b8 k ≤ 255 := fun k => by rw [b8_eq]; omega
  unfold vb at hx
  dsimp only at hx
  have go : ∀ l : List Int, (∀ y ∈ l, ∃ k, y = b8 k) → x ∈ l → 0 ≤ x ∧ x ≤ 255 := fun l h hm => by
    obtain ⟨k, rfl⟩ := h x hm
    exact this k
  repeat' split at hx
  all_goals refine go _ ?_ hx
  all_goals simp only [List.mem_cons, List.not_mem_nil, or_false, forall_eq_or_imp, forall_eq]
  all_goals repeat' apply And.intro
  all_goals exact ⟨_, rfl⟩
theorem varL_bytes (l : List Int) : ∀ x ∈ varL l, 0 ≤ x ∧ x ≤ 255 := by
  intro x hx
  unfold varL at hx
  rw [List.mem_flatMap] at hx
  obtain ⟨n, _, h⟩ := hx
  exact vb_bytes n x h
theorem vb_1 {n : Int} (h : 0 ≤ n ∧ n < 64) : vb n = [n] := by
  unfold vb
  simp only [if_neg (show ¬ (n < 0 ∨ n ≥ 16777216) by omega), if_pos h.2, b8_eq]
  rw [show n % 256 = n by omega]
theorem vb_2 {n : Int} (h : 64 ≤ n ∧ n < 16384) : vb n = [64 + n / 256, n % 256] := by
  unfold vb
  simp only [if_neg (show ¬ (n < 0 ∨ n ≥ 16777216) by omega), if_neg (show ¬ n < 64 by omega), if_pos h.2, b8_eq]
  rw [Int.fdiv_eq_ediv_of_nonneg _ (by omega), show (64 + n / 256) % 256 = 64 + n / 256 by omega]
theorem vb_4 {n : Int} (h : 16384 ≤ n ∧ n < 16777216) : vb n = [128, n / 65536, n / 256 % 256, n % 256] := by
  unfold vb
  simp only [if_neg (show ¬ (n < 0 ∨ n ≥ 16777216) by omega), if_neg (show ¬ n < 64 by omega), if_neg (show ¬ n < 16384 by omega), b8_eq]
  rw [Int.fdiv_eq_ediv_of_nonneg _ (by omega), Int.fdiv_eq_ediv_of_nonneg _ (by omega), show n / 65536 % 256 = n / 65536 by omega]
  rfl
theorem vb_less {x y : Int} (hx : 0 ≤ x ∧ x < 16777216) (hy : 0 ≤ y ∧ y < 16777216) (h : x < y) (s t : List Int) : cmpL (vb x ++ s) (vb y ++ t) = -1 := by
  have one : ∀ {a b : Int} {u v : List Int}, a = b → cmpL u v = -1 → cmpL (a :: u) (b :: v) = -1 := by
    intro a b u v e hc
    subst e
    rw [cmpL, if_neg (by omega), if_neg (by omega)]; exact hc
  by_cases x1 : x < 64
  · rw [vb_1 ⟨hx.1, x1⟩]
    by_cases y1 : y < 64
    · rw [vb_1 ⟨hy.1, y1⟩]; exact cmpL_lt h
    · by_cases y2 : y < 16384
      · rw [vb_2 ⟨by omega, y2⟩]; exact cmpL_lt (by omega)
      · rw [vb_4 ⟨by omega, hy.2⟩]; exact cmpL_lt (by omega)
  · by_cases x2 : x < 16384
    · rw [vb_2 ⟨by omega, x2⟩]
      by_cases y2 : y < 16384
      · rw [vb_2 ⟨by omega, y2⟩]
        by_cases d : x / 256 = y / 256
        · exact one (by omega) (cmpL_lt (by omega))
        · exact cmpL_lt (by omega)
      · rw [vb_4 ⟨by omega, hy.2⟩]; exact cmpL_lt (by omega)
    · rw [vb_4 ⟨by omega, hx.2⟩, vb_4 ⟨by omega, hy.2⟩]
      refine one rfl ?_
      by_cases d : x / 65536 = y / 65536
      · refine one d ?_
        by_cases d2 : x / 256 = y / 256
        · exact one (by omega) (cmpL_lt (by omega))
        · exact cmpL_lt (by omega)
      · exact cmpL_lt (by omega)
theorem vb_cons (n : Int) : ∃ h t, vb n = h :: t := by
  unfold vb
  simp only
  repeat' split
  all_goals exact ⟨_, _, rfl⟩
theorem varL_order : ∀ (a b : List Int), (∀ z ∈ a, 0 ≤ z ∧ z < 16777216) → (∀ z ∈ b, 0 ≤ z ∧ z < 16777216) → cmpL (varL a) (varL b) = cmpL a b
  | [], [], _, _ => rfl
  | [], y :: ys, _, _ => by
    obtain ⟨h, t, e⟩ := vb_cons y
    unfold varL
    rw [List.flatMap_cons, e]; rfl
  | x :: xs, [], _, _ => by
    obtain ⟨h, t, e⟩ := vb_cons x
    unfold varL
    rw [List.flatMap_cons, e]; rfl
  | x :: xs, y :: ys, hx, hy => by
    have h0 := hx x (by simp)
    have h1 := hy y (by simp)
    have ih := varL_order xs ys (fun z hz => hx z (by simp [hz])) (fun z hz => hy z (by simp [hz]))
    unfold varL at ih ⊢
    rw [List.flatMap_cons, List.flatMap_cons, cmpL]
    by_cases c1 : x < y
    · rw [if_pos c1]; exact vb_less h0 h1 c1 _ _
    · by_cases c2 : x > y
      · rw [if_neg c1, if_pos c2, cmpL_flip (vb y ++ _), vb_less h1 h0 c2]; rfl
      · rw [if_neg c1, if_neg c2, show x = y by omega, cmpL_app, ih]
theorem byte_lt {x y : Int} (hx : 0 ≤ x ∧ x ≤ 255) (hy : 0 ≤ y ∧ y ≤ 255) : (UInt8.ofNat x.toNat < UInt8.ofNat y.toNat) ↔ x < y := by
  rw [UInt8.lt_iff_toNat_lt, UInt8.toNat_ofNat', UInt8.toNat_ofNat', Nat.mod_eq_of_lt (by omega), Nat.mod_eq_of_lt (by omega)]
  omega
theorem byte_eq {x y : Int} (hx : 0 ≤ x ∧ x ≤ 255) (hy : 0 ≤ y ∧ y ≤ 255) : (UInt8.ofNat x.toNat = UInt8.ofNat y.toNat) ↔ x = y := by
  rw [← UInt8.toNat_inj, UInt8.toNat_ofNat', UInt8.toNat_ofNat', Nat.mod_eq_of_lt (by omega), Nat.mod_eq_of_lt (by omega)]
  omega
theorem str8_less : ∀ (a b : List Int), (∀ z ∈ a, 0 ≤ z ∧ z ≤ 255) → (∀ z ∈ b, 0 ≤ z ∧ z ≤ 255) → Op.bytesLess (str8 a) (str8 b) = decide (cmpL a b < 0)
  | [], [], _, _ => rfl
  | [], y :: ys, _, _ => rfl
  | x :: xs, [], _, _ => rfl
  | x :: xs, y :: ys, hx, hy => by
    have h0 := hx x (by simp)
    have h1 := hy y (by simp)
    have ih := str8_less xs ys (fun z hz => hx z (by simp [hz])) (fun z hz => hy z (by simp [hz]))
    have l1 := byte_lt h0 h1
    have l2 := byte_eq h0 h1
    unfold str8 at ih ⊢
    rw [List.map_cons, List.map_cons, Op.bytesLess, ih, cmpL]
    by_cases c1 : x < y
    · rw [if_pos c1]; simp [l1.2 c1]
    · have n1 : ¬ UInt8.ofNat x.toNat < UInt8.ofNat y.toNat := fun q => c1 (l1.1 q)
      by_cases c2 : x > y
      · have n2 : ¬ UInt8.ofNat x.toNat = UInt8.ofNat y.toNat := fun q => by have := l2.1 q; omega
        rw [if_neg c1, if_pos c2]; simp [n1, n2]
      · have n2 : UInt8.ofNat x.toNat = UInt8.ofNat y.toNat := l2.2 (by omega)
        rw [if_neg c1, if_neg c2, n2]; simp
theorem str8_same : ∀ (a b : List Int), (∀ z ∈ a, 0 ≤ z ∧ z ≤ 255) → (∀ z ∈ b, 0 ≤ z ∧ z ≤ 255) → (str8 a == str8 b) = decide (cmpL a b = 0)
  | [], [], _, _ => rfl
  | [], y :: ys, _, _ => rfl
  | x :: xs, [], _, _ => rfl
  | x :: xs, y :: ys, hx, hy => by
    have h0 := hx x (by simp)
    have h1 := hy y (by simp)
    have ih := str8_same xs ys (fun z hz => hx z (by simp [hz])) (fun z hz => hy z (by simp [hz]))
    have l2 := byte_eq h0 h1
    unfold str8 at ih ⊢
    rw [List.map_cons, List.map_cons, List.cons_beq_cons, ih, cmpL]
    by_cases c : x = y
    · rw [if_neg (by omega), if_neg (by omega)]; simp [l2.2 c]
    · have n2 : ¬ UInt8.ofNat x.toNat = UInt8.ofNat y.toNat := fun q => c (l2.1 q)
      by_cases c1 : x < y
      · rw [if_pos c1]; simp [n2]
      · rw [if_neg c1, if_pos (by omega)]; simp [n2]

/-! ### The length of runs -/
theorem pk_rep (m : Int) (hm : 1 ≤ m ∧ m ≤ 65535) : ∀ (n c : Nat) (l : List Int), pk m c (List.replicate n m ++ l) = pk m (c + n) l
  | 0, c, l => rfl
  | n + 1, c, l => by
    rw [List.replicate_succ, List.cons_append, pk_same m c _ hm, pk_rep m hm n (c + 1) l, show c + 1 + n = c + (n + 1) by omega]
theorem number_same {m : Int} (h : 1 ≤ m ∧ m ≤ 65535) : number m = m := by unfold number; rw [if_neg (by omega)]
theorem run_len (m : Int) (hm : 1 ≤ m ∧ m ≤ 65535) (n : Nat) : (packL m (List.replicate n m)).length = (n + 7) / 8 := by
  have := pk_rep m hm n 0 []
  rw [List.append_nil, Nat.zero_add] at this
  show (pk (number m) 0 (List.replicate n m)).length = _
  rw [number_same hm, this]
  simp only [pk, runsL, List.flatMap_cons, List.flatMap_nil, List.append_nil, emit, true_or, if_true, List.length_append, List.length_replicate]
  split
  · simp; omega
  · simp; omega
theorem run_len1 (m : Int) (hm : 1 ≤ m ∧ m ≤ 65535) (n : Nat) (x : Int) (hx : 0 ≤ x ∧ x ≤ 65535) (hne : x ≠ m) : (packL m (List.replicate n m ++ [x])).length = (n + 7) / 8 + 1 := by
  show (pk (number m) 0 (List.replicate n m ++ [x])).length = _
  rw [number_same hm, pk_rep m hm n 0 [x], Nat.zero_add]
  simp only [pk, runsL]
  rw [weight_same hx, if_neg hne]
  simp only [List.flatMap_cons, List.flatMap_nil, List.append_nil, emit, List.length_append, List.length_replicate, Bool.false_eq_true, if_false, false_or, if_true]
  repeat' split
  all_goals simp at *
  all_goals omega
end Go.Pv.Kp
