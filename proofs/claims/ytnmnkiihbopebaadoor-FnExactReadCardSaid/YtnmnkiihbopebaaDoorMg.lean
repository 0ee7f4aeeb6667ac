/- Plain law: axes put together, and the counter that goes through the places. -/
import Derived.Test.YtnmnkiihbopebaaDoorAp
namespace Go.Nd
open Go.RowKit

theorem placesF_append (s1 t1 s2 t2 : List Int) (a : Int) (h : s1.length = t1.length) : placesF (s1 ++ s2) (t1 ++ t2) a = (placesF s1 t1 a).flatMap (placesF s2 t2) := by
  induction s1 generalizing t1 a with
  | nil =>
    cases t1 with
    | nil => simp [placesF]
    | cons _ _ => simp at h
  | cons n s1 ih =>
    cases t1 with
    | nil => simp at h
    | cons s t1 =>
      simp only [List.cons_append, placesF, List.tail_cons, List.headD_cons, List.flatMap_assoc]
      congr 1
      funext i
      exact ih t1 _ (by simpa using h)
theorem placesF_one (n s a : Int) : placesF [n] [s] a = (List.range n.toNat).map fun (i : Nat) => a + (i : Int) * s := by
  simp only [placesF, List.headD_cons]
  induction List.range n.toNat with
  | nil => rfl
  | cons x l ih => simp [ih]
theorem range_mul (n k : Nat) (f : Nat → Int) : (List.range (n * k)).map f = (List.range n).flatMap fun i => (List.range k).map fun j => f (i * k + j) := by
  induction n with
  | zero => simp
  | succ n ih => rw [Nat.succ_mul, List.range_add, List.map_append, ih, List.range_succ, List.flatMap_append]; simp [Function.comp_def]
theorem placesF_merge (n k s a : Int) (hn : 0 ≤ n) (hk : 0 ≤ k) : placesF [n * k] [s] a = placesF [n, k] [s * k, s] a := by
  obtain ⟨m, rfl⟩ : ∃ m : Nat, n = m := ⟨n.toNat, by omega⟩
  obtain ⟨l, rfl⟩ : ∃ l : Nat, k = l := ⟨k.toNat, by omega⟩
  rw [placesF_one]
  have e1 : ((m : Int) * (l : Int)).toNat = m * l := by rw [← Int.natCast_mul]; rfl
  rw [e1, range_mul]
  show _ = placesF ([(m : Int)] ++ [(l : Int)]) ([s * l] ++ [s]) a
  rw [placesF_append [(m : Int)] [s * l] [(l : Int)] [s] a rfl, placesF_one, Int.toNat_natCast, List.flatMap_map]
  congr 1
  funext i
  rw [placesF_one, Int.toNat_natCast]
  congr 1
  funext j
  rw [Int.natCast_add, Int.natCast_mul, Int.add_mul, Int.mul_assoc, Int.mul_comm s (l : Int)]
  omega

/-- One axis more, as impl.merged takes it. -/
def mStep (acc : List (Int × Int)) (p : Int × Int) : List (Int × Int) :=
  if p.1 = 1 then acc else
    match acc.getLast? with
    | none => acc ++ [p]
    | some q => if q.2 = p.2 * p.1 then acc.dropLast ++ [(q.1 * p.1, p.2)] else acc ++ [p]
def mergeF (ps : List (Int × Int)) : List (Int × Int) := ps.foldl mStep []
def plc (ps : List (Int × Int)) (a : Int) : List Int := placesF (ps.map (·.1)) (ps.map (·.2)) a
theorem plc_append (ps qs : List (Int × Int)) (a : Int) : plc (ps ++ qs) a = (plc ps a).flatMap (plc qs) := by
  unfold plc
  rw [List.map_append, List.map_append, placesF_append _ _ _ _ _ (by simp)]
theorem flatMap_pure (l : List Int) : l.flatMap (fun a => [a]) = l := by induction l with
  | nil => rfl
  | cons x l ih => rw [List.flatMap_cons, ih]; rfl
theorem mStep_law (acc : List (Int × Int)) (p : Int × Int) (a : Int) (h : ∀ q ∈ acc, 1 ≤ q.1) (hp : 1 ≤ p.1) : plc (mStep acc p) a = plc (acc ++ [p]) a := by
  unfold mStep
  split
  · rename_i h1
    rw [plc_append]
    have : plc [p] = fun a => [a] := by
      funext b
      show placesF [p.1] [p.2] b = [b]
      rw [placesF_one, h1]
      simp
    rw [this, flatMap_pure]
  · rename_i h1
    cases hl : acc.getLast? with
    | none => rfl
    | some q =>
      dsimp only
      split
      · rename_i h2
        obtain ⟨init, rfl⟩ : ∃ init, acc = init ++ [q] := by
          rw [List.getLast?_eq_some_iff] at hl
          exact hl
        rw [List.dropLast_concat, List.append_assoc, plc_append, plc_append]
        congr 1
        funext b
        have hq := h q (by simp)
        show placesF [q.1 * p.1] [p.2] b = placesF [q.1, p.1] [q.2, p.2] b
        rw [h2]
        exact placesF_merge _ _ _ _ (by omega) (by omega)
      · rfl
theorem mStep_pos (acc : List (Int × Int)) (p : Int × Int) (h : ∀ q ∈ acc, 1 ≤ q.1) (hp : 1 ≤ p.1) : ∀ q ∈ mStep acc p, 1 ≤ q.1 := by
  unfold mStep
  split
  · exact h
  · cases hl : acc.getLast? with
    | none =>
      dsimp only
      intro q hq
      rcases List.mem_append.1 hq with h' | h'
      · exact h q h'
      · simp at h'; subst h'; exact hp
    | some r =>
      dsimp only
      have hr : 1 ≤ r.1 := h r (List.mem_of_getLast? hl)
      split
      · intro q hq
        rcases List.mem_append.1 hq with h' | h'
        · exact h q ((List.dropLast_subset acc) h')
        · simp at h'; subst h'
          have := Int.mul_le_mul hr hp (by omega) (by omega)
          simpa using this
      · intro q hq
        rcases List.mem_append.1 hq with h' | h'
        · exact h q h'
        · simp at h'; subst h'; exact hp
def prodP (ps : List (Int × Int)) : Int := prodI (ps.map (·.1))
theorem mStep_prod (acc : List (Int × Int)) (p : Int × Int) : prodP (mStep acc p) = prodP acc * p.1 := by
  unfold mStep
  split
  · rename_i h; rw [h, Int.mul_one]
  · cases hl : acc.getLast? with
    | none => dsimp only; rw [prodP, List.map_append, List.map_singleton, prodI_snoc]; rfl
    | some q =>
      dsimp only
      split
      · obtain ⟨init, rfl⟩ : ∃ init, acc = init ++ [q] := by
          rw [List.getLast?_eq_some_iff] at hl
          exact hl
        rw [List.dropLast_concat, prodP, prodP, List.map_append, List.map_append, List.map_singleton, List.map_singleton, prodI_snoc, prodI_snoc, Int.mul_assoc]
      · rw [prodP, List.map_append, List.map_singleton, prodI_snoc]; rfl
theorem mStep_length (acc : List (Int × Int)) (p : Int × Int) : (mStep acc p).length ≤ acc.length + 1 := by
  unfold mStep
  split
  · omega
  · cases hl : acc.getLast? with
    | none => simp
    | some q =>
      dsimp only
      split
      · simp
      · simp
theorem mergeF_snoc (ps : List (Int × Int)) (p : Int × Int) : mergeF (ps ++ [p]) = mStep (mergeF ps) p := by simp [mergeF]
theorem mergeF_facts (ps : List (Int × Int)) (hp : ∀ q ∈ ps, 1 ≤ q.1) : (∀ q ∈ mergeF ps, 1 ≤ q.1) ∧ prodP (mergeF ps) = prodP ps ∧ (mergeF ps).length ≤ ps.length ∧ ∀ a, plc (mergeF ps) a = plc ps a := by
  have main : ∀ k, k ≤ ps.length → (∀ q ∈ mergeF (ps.take k), 1 ≤ q.1) ∧ prodP (mergeF (ps.take k)) = prodP (ps.take k) ∧ (mergeF (ps.take k)).length ≤ k ∧ ∀ a, plc (mergeF (ps.take k)) a = plc (ps.take k) a := by
    intro k
    induction k with
    | zero => intro _; exact ⟨by simp [mergeF], by simp [mergeF], by simp [mergeF], fun a => by simp [mergeF]⟩
    | succ k ih =>
      intro hk
      obtain ⟨i1, i2, i3, i4⟩ := ih (by omega)
      have hpk := hp _ (List.getElem_mem (show k < ps.length by omega))
      rw [List.take_succ_eq_append_getElem (by omega), mergeF_snoc]
      refine ⟨mStep_pos _ _ i1 hpk, ?_, ?_, fun a => ?_⟩
      · rw [mStep_prod, i2, prodP, prodP, List.map_append, List.map_singleton, prodI_snoc]
      · have := mStep_length (mergeF (ps.take k)) ps[k]; omega
      · rw [mStep_law _ _ _ i1 hpk, plc_append, plc_append]
        rw [i4 a]
  have := main ps.length (Nat.le_refl _)
  rwa [List.take_length] at this

/-! ### the counter -/
/-- The places yet to come, the one at hand first. -/
def restF : List (Int × Int) → List Int → Int → List Int
  | [], _, a => [a]
  | p :: ps, ds, a => restF ps ds.tail (a + ds.headD 0 * p.2) ++ (List.range (p.1 - ds.headD 0 - 1).toNat).flatMap fun (i : Nat) => plc ps (a + (ds.headD 0 + 1 + (i : Int)) * p.2)
def nextF : List (Int × Int) → List Int → Option (List Int)
  | [], _ => none
  | p :: ps, ds =>
    match nextF ps ds.tail with
    | some ds' => some (ds.headD 0 :: ds')
    | none => if ds.headD 0 + 1 < p.1 then some ((ds.headD 0 + 1) :: List.replicate ps.length 0) else none
/-- The place at hand. -/
def placeF : List (Int × Int) → List Int → Int → Int
  | [], _, a => a
  | p :: ps, ds, a => placeF ps ds.tail (a + ds.headD 0 * p.2)
theorem range_from (n : Nat) (f : Nat → List Int) (hn : 1 ≤ n) : (List.range n).flatMap f = f 0 ++ (List.range (n - 1)).flatMap fun i => f (i + 1) := by
  obtain ⟨m, rfl⟩ : ∃ m, n = m + 1 := ⟨n - 1, by omega⟩
  rw [List.range_succ_eq_map, List.flatMap_cons, List.flatMap_map]
  rfl
theorem restF_zero (ps : List (Int × Int)) (a : Int) (h : ∀ p ∈ ps, 1 ≤ p.1) : restF ps (List.replicate ps.length 0) a = plc ps a := by
  induction ps generalizing a with
  | nil => rfl
  | cons p ps ih =>
    have hp := h p (by simp)
    show restF ps (List.replicate ps.length 0) (a + 0 * p.2) ++ (List.range (p.1 - 0 - 1).toNat).flatMap (fun (i : Nat) => plc ps (a + (0 + 1 + (i : Int)) * p.2)) = (List.range p.1.toNat).flatMap fun (i : Nat) => plc ps (a + (i : Int) * p.2)
    rw [ih _ fun q hq => h q (by simp [hq]), range_from p.1.toNat _ (by omega), show (p.1 - 0 - 1).toNat = p.1.toNat - 1 by omega]
    congr 1
    congr 1
    funext i
    rw [Int.natCast_add, show (0 : Int) + 1 + (i : Int) = (i : Int) + ((1 : Nat) : Int) by omega]
theorem restF_next (ps : List (Int × Int)) (ds : List Int) (a : Int) (h : ∀ p ∈ ps, 1 ≤ p.1) :
    restF ps ds a = placeF ps ds a :: (match nextF ps ds with | some ds' => restF ps ds' a | none => []) := by
  induction ps generalizing ds a with
  | nil => rfl
  | cons p ps ih =>
    have ih' := ih ds.tail (a + ds.headD 0 * p.2) fun q hq => h q (by simp [hq])
    simp only [restF, nextF, placeF]
    rw [ih']
    cases hn : nextF ps ds.tail with
    | some ds' => simp
    | none =>
      dsimp only
      by_cases hd : ds.headD 0 + 1 < p.1
      · rw [if_pos hd]
        dsimp only
        simp only [List.tail_cons, List.headD_cons, List.cons_append, List.nil_append]
        rw [restF_zero _ _ fun q hq => h q (by simp [hq]), range_from _ _ (by omega)]
        rw [show (p.1 - (ds.headD 0 + 1) - 1).toNat = (p.1 - ds.headD 0 - 1).toNat - 1 by omega, show ds.headD 0 + 1 + ((0 : Nat) : Int) = ds.headD 0 + 1 by omega]
        congr 2
        congr 1
        funext i
        rw [Int.natCast_add, show ds.headD 0 + 1 + ((i : Int) + ((1 : Nat) : Int)) = ds.headD 0 + 1 + 1 + (i : Int) by omega]
      · rw [if_neg hd, show (p.1 - ds.headD 0 - 1).toNat = 0 by omega]
        simp
def tailF (m : List (Int × Int)) (ds : List Int) (a : Int) : List Int := match nextF m ds with
  | some ds' => restF m ds' a
  | none => []
theorem restF_tail (m : List (Int × Int)) (ds : List Int) (a : Int) (h : ∀ p ∈ m, 1 ≤ p.1) : restF m ds a = placeF m ds a :: tailF m ds a := restF_next m ds a h
theorem tailF_none {m : List (Int × Int)} {ds : List Int} (a : Int) (h : nextF m ds = none) : tailF m ds a = [] := by unfold tailF; rw [h]
theorem tailF_some {m : List (Int × Int)} {ds ds' : List Int} (a : Int) (h : nextF m ds = some ds') : tailF m ds a = restF m ds' a := by unfold tailF; rw [h]
theorem nextF_cons (p : Int × Int) (ps : List (Int × Int)) (d : Int) (ds : List Int) : nextF (p :: ps) (d :: ds) = match nextF ps ds with
    | some ds' => some (d :: ds')
    | none => if d + 1 < p.1 then some ((d + 1) :: List.replicate ps.length 0) else none := rfl
theorem nextF_lt (m : List (Int × Int)) (ds : List Int) (i : Nat) (hi : i < m.length) (hd : i < ds.length) (hn : nextF (m.drop (i + 1)) (ds.drop (i + 1)) = none) (h : ds[i] + 1 < m[i].1) :
    nextF (m.drop i) (ds.drop i) = some ((ds[i] + 1) :: List.replicate (m.length - i - 1) 0) := by
  rw [List.drop_eq_getElem_cons hi, List.drop_eq_getElem_cons hd]
  rw [nextF_cons, hn]
  dsimp only
  rw [if_pos h, List.length_drop]
  rfl
theorem nextF_ge (m : List (Int × Int)) (ds : List Int) (i : Nat) (hi : i < m.length) (hd : i < ds.length) (hn : nextF (m.drop (i + 1)) (ds.drop (i + 1)) = none) (h : m[i].1 ≤ ds[i] + 1) :
    nextF (m.drop i) (ds.drop i) = none := by
  rw [List.drop_eq_getElem_cons hi, List.drop_eq_getElem_cons hd]
  rw [nextF_cons, hn]
  dsimp only
  rw [if_neg (by omega)]
theorem nextF_up (m : List (Int × Int)) (ds ds' : List Int) (i : Nat) (hi : i ≤ m.length) (hd : ds.length = m.length) (hn : nextF (m.drop i) (ds.drop i) = some ds') : nextF m ds = some (ds.take i ++ ds') := by
  induction i generalizing ds' with
  | zero => simpa using hn
  | succ i ih =>
    have h1 : i < m.length := by omega
    have h2 : i < ds.length := by omega
    have := ih (ds[i] :: ds') (by omega) (by
      rw [List.drop_eq_getElem_cons h1, List.drop_eq_getElem_cons h2]
      rw [nextF_cons, hn])
    rw [this, List.take_succ_eq_append_getElem h2, List.append_assoc]
    rfl
theorem placeF_append (p1 p2 : List (Int × Int)) (d1 d2 : List Int) (a : Int) (h : p1.length = d1.length) : placeF (p1 ++ p2) (d1 ++ d2) a = placeF p2 d2 (placeF p1 d1 a) := by
  induction p1 generalizing d1 a with
  | nil => cases d1 with
    | nil => rfl
    | cons _ _ => simp at h
  | cons p p1 ih =>
    cases d1 with
    | nil => simp at h
    | cons d d1 =>
      simp only [List.cons_append, placeF, List.tail_cons, List.headD_cons]
      exact ih d1 _ (by simpa using h)
theorem placeF_zeros (ps : List (Int × Int)) (n : Nat) (a : Int) : placeF ps (List.replicate n 0) a = a := by
  induction ps generalizing n a with
  | nil => rfl
  | cons p ps ih =>
    cases n with
    | zero => simp only [List.replicate_zero, placeF, List.tail_nil, List.headD_nil, Int.zero_mul, Int.add_zero]; exact ih 0 a
    | succ n => simp only [List.replicate_succ, placeF, List.tail_cons, List.headD_cons, Int.zero_mul, Int.add_zero]; exact ih n a
/-- The place of the first k digits. -/
def plK (m : List (Int × Int)) (ds : List Int) (a : Int) (k : Nat) : Int := placeF (m.take k) (ds.take k) a
theorem plK_zero (m : List (Int × Int)) (ds : List Int) (a : Int) : plK m ds a 0 = a := rfl
theorem plK_succ (m : List (Int × Int)) (ds : List Int) (a : Int) (k : Nat) (h : k < m.length) (h2 : k < ds.length) : plK m ds a (k + 1) = plK m ds a k + ds[k] * m[k].2 := by
  unfold plK
  rw [List.take_succ_eq_append_getElem h, List.take_succ_eq_append_getElem h2, placeF_append _ _ _ _ _ (by simp; omega)]
  rfl
theorem plK_all (m : List (Int × Int)) (ds : List Int) (a : Int) (h : ds.length = m.length) : plK m ds a m.length = placeF m ds a := by
  unfold plK; rw [List.take_length, ← h, List.take_length]
theorem place_next (m : List (Int × Int)) (ds : List Int) (a x : Int) (i : Nat) (h : i < m.length) (h2 : ds.length = m.length) (n : Nat) : placeF m (ds.take i ++ x :: List.replicate n 0) a = plK m ds a i + x * m[i].2 := by
  have e : m = m.take i ++ m[i] :: m.drop (i + 1) := by rw [← List.drop_eq_getElem_cons h, List.take_append_drop]
  rw [show placeF m (ds.take i ++ x :: List.replicate n 0) a = placeF (m.take i ++ m[i] :: m.drop (i + 1)) (ds.take i ++ x :: List.replicate n 0) a from congrArg (fun y => placeF y _ a) e, placeF_append _ _ _ _ _ (by simp; omega)]
  simp only [placeF, List.tail_cons, List.headD_cons, placeF_zeros]
  rfl
/-- Bounds of the axes. -/
def AxOk (m : List (Int × Int)) : Prop := m.length ≤ 4 ∧ ∀ q ∈ m, 1 ≤ q.1 ∧ q.1 ≤ 4096 ∧ -4096 ≤ q.2 ∧ q.2 ≤ 4096
theorem mStep_str (acc : List (Int × Int)) (p : Int × Int) (h : ∀ q ∈ acc, -4096 ≤ q.2 ∧ q.2 ≤ 4096) (hp : -4096 ≤ p.2 ∧ p.2 ≤ 4096) : ∀ q ∈ mStep acc p, -4096 ≤ q.2 ∧ q.2 ≤ 4096 := by
  unfold mStep
  split
  · exact h
  · have hx : ∀ q ∈ acc ++ [p], -4096 ≤ q.2 ∧ q.2 ≤ 4096 := by
      intro q hq
      rcases List.mem_append.1 hq with h' | h'
      · exact h q h'
      · simp at h'; subst h'; exact hp
    cases hl : acc.getLast? with
    | none => exact hx
    | some r =>
      dsimp only
      split
      · intro q hq
        rcases List.mem_append.1 hq with h' | h'
        · exact h q ((List.dropLast_subset acc) h')
        · simp at h'; subst h'; exact hp
      · exact hx
theorem mem_le_prod (sh : List Int) (h : ∀ x ∈ sh, 1 ≤ x) : ∀ x ∈ sh, x ≤ prodI sh := by
  induction sh with
  | nil => simp
  | cons y sh ih =>
    have hy := h y (by simp)
    have ih' := ih fun x hx => h x (by simp [hx])
    have hpos : ∀ l : List Int, (∀ x ∈ l, 1 ≤ x) → 1 ≤ prodI l := by
      intro l
      induction l with
      | nil => intro _; simp [prodI_nil]
      | cons z l il =>
        intro hz
        rw [prodI_cons]
        have := Int.mul_le_mul (hz z (by simp)) (il fun x hx => hz x (by simp [hx])) (by omega) (by have := hz z (by simp); omega)
        simpa using this
    have hq := hpos sh fun x hx => h x (by simp [hx])
    intro x hx
    rw [prodI_cons]
    rcases List.mem_cons.1 hx with rfl | hx
    · have := Int.mul_le_mul_of_nonneg_left hq (show 0 ≤ x by omega)
      omega
    · have h1 := ih' x hx
      have := Int.mul_le_mul_of_nonneg_right hy (show 0 ≤ prodI sh by omega)
      omega
theorem mergeF_ok (ps : List (Int × Int)) (h4 : ps.length ≤ 4) (h1 : ∀ q ∈ ps, 1 ≤ q.1) (h2 : ∀ q ∈ ps, -4096 ≤ q.2 ∧ q.2 ≤ 4096) (hp : prodP ps ≤ 4096) : AxOk (mergeF ps) := by
  obtain ⟨f1, f2, f3, _⟩ := mergeF_facts ps h1
  refine ⟨by omega, fun q hq => ?_⟩
  have hb := mem_le_prod ((mergeF ps).map (·.1)) (by intro x hx; obtain ⟨q, hq, rfl⟩ := List.mem_map.1 hx; exact f1 q hq) q.1 (List.mem_map_of_mem hq)
  have hs : ∀ k, k ≤ ps.length → ∀ q ∈ mergeF (ps.take k), -4096 ≤ q.2 ∧ q.2 ≤ 4096 := by
    intro k
    induction k with
    | zero => intro _; simp [mergeF]
    | succ k ih =>
      intro hk
      rw [List.take_succ_eq_append_getElem (by omega), mergeF_snoc]
      exact mStep_str _ _ (ih (by omega)) (h2 _ (List.getElem_mem _))
  have := hs ps.length (Nat.le_refl _)
  rw [List.take_length] at this
  have h3 := this q hq
  have h5 := f1 q hq
  unfold prodP at f2 hp
  omega
end Go.Nd
