/- The laws' comparisons, where the two sides are one: they answer true. -/
import Derived.Test.YtnmnkiihbopebaaDoorLa
import Derived.Test.YtnmnkiihbopebaaDoorFc
namespace Go.Proofs.YtnmnkiihbopebaaDoor
open Go.RowKit Go.Nd
attribute [local go_sem] run_store_float

/-- Two cells are one value, floats by rule 3. -/
def clSame (a b : Cl) : Prop := a.i = b.i ∧ fsame a.f b.f = true ∧ fsame a.g b.g = true
theorem fsame_refl (x : Nat) : fsame x x = true := by unfold fsame; cases Nanw x <;> simp
theorem clSame.refl (a : Cl) : clSame a a := ⟨rfl, fsame_refl _, fsame_refl _⟩
def csSame (xs ys : List Cl) : Prop := xs.length = ys.length ∧ ∀ (k : Nat) (h1 : k < xs.length) (h2 : k < ys.length), clSame xs[k] ys[k]
theorem csSame.refl (xs : List Cl) : csSame xs xs := ⟨rfl, fun _ _ _ => clSame.refl _⟩
def srSame (a b : Sr) : Prop := a.dt = b.dt ∧ csSame a.cs b.cs
theorem srSame.refl (a : Sr) : srSame a a := ⟨rfl, csSame.refl _⟩
theorem eqCell_t (i : Int) (f g f' g' : Nat) (w : World) (h1 : fsame f f' = true) (h2 : fsame g g' = true) (w1 : f < 2 ^ 64) (w2 : g < 2 ^ 64) (w3 : f' < 2 ^ 64) (w4 : g' < 2 ^ 64) :
    Calls Tryd.prog 40 #[.agg #[.int .i64 i, .float .f64 f, .float .f64 g], .agg #[.int .i64 i, .float .f64 f', .float .f64 g']] w fun e w' => e = .returned (.bool true) ∧ Below w.heap.size w w' := by
  have W1 := hide w1
  have W2 := hide w2
  have W3 := hide w3
  have W4 := hide w4
  clear w1 w2 w3 w4
  go_enter Tryd.func40, Tryd.ntmps40
  go_wp2_with fail
  refine (sameFloat_c _ _ W1.out W3.out _).mono ?_
  rintro e w' ⟨rfl, rfl⟩
  go_wp2_with fail
  refine (sameFloat_c _ _ W2.out W4.out _).mono ?_
  rintro e w' ⟨rfl, rfl⟩
  go_wp2_with fail
  go_ret
  exact ⟨rfl, below_a2 _ _ _⟩
theorem eqCellS_t {B B' : Nat} (A A' : Option Addr) (c c' : Nat) (xs ys : List Cl) (w : World) (hs : csSame xs ys) (wx : ∀ c ∈ xs, c.wf) (wy : ∀ c ∈ ys, c.wf) (hn : xs.length ≤ 1048576) (hA : AtB B w A (cvs xs)) (hA' : AtB B' w A' (cvs ys)) :
    Calls Tryd.prog 12 #[.slice A xs.length c, .slice A' ys.length c'] w fun e w' => e = .returned (.bool true) ∧ Below w.heap.size w w' := by
  obtain ⟨hlen, hs⟩ := hs
  have HS := hide hs
  have HA := hide hA.now
  have HA' := hide hA'.now
  have WX := hide wx
  have WY := hide wy
  have HL := hide hlen
  rw [← hlen]
  clear hs hA hA' wx wy hlen
  go_enter Tryd.func12, Tryd.ntmps12
  go_wp2_with fail
  go_loopw [5] (fun i wr => ∃ k : Nat, k ≤ xs.length ∧ i = .int .i64 k ∧ Below w.heap.size w wr) (fun i _ => xs.length - (intOf i).toNat)
  case atStart => exact ⟨0, Nat.zero_le _, rfl, Below.refl _ _⟩
  case round =>
    obtain ⟨k, hk, rfl, hb⟩ := hrel
    have hB := hb.size
    by_cases hlt : k < xs.length
    · have hlt' : k < ys.length := by rw [← HL.out]; exact hlt
      obtain ⟨b, o, rfl, hbl, h0, h1, h2⟩ := at_cl (HA.out.below hb) hlt
      obtain ⟨b', o', rfl, hbl', h0', h1', h2'⟩ := at_cl (HA'.out.below hb) hlt'
      obtain ⟨s0, s1, s2⟩ := HS.out k hlt hlt'
      rw [← s0] at h0'
      have S1 := hide s1
      have S2 := hide s2
      have WXk := hide (WX.out _ (List.getElem_mem hlt))
      have WYk := hide (WY.out _ (List.getElem_mem hlt'))
      clear s0 s1 s2
      have hbb : b < wr.heap.size := by omega
      have hbb' : b' < wr.heap.size := by omega
      have l0 : (0 : Int) ≤ k := by omega
      have l1 : (k : Int) < xs.length := by omega
      go_wp2_with fail
      go_region_held3 (fun w' => w'.cell? ⟨b, o + k * 3, none⟩ = some (.int .i64 xs[k].i) ∧ w'.cell? ⟨b, o + k * 3 + 1, none⟩ = some (.float .f64 xs[k].f) ∧ w'.cell? ⟨b, o + k * 3 + 2, none⟩ = some (.float .f64 xs[k].g) ∧ w'.cell? ⟨b', o' + k * 3, none⟩ = some (.int .i64 xs[k].i) ∧ w'.cell? ⟨b', o' + k * 3 + 1, none⟩ = some (.float .f64 ys[k].f) ∧ w'.cell? ⟨b', o' + k * 3 + 2, none⟩ = some (.float .f64 ys[k].g)) (first | exact ⟨h0, h1, h2, h0', h1', h2'⟩ | exact ⟨r0, r1, r2, r3, r4, r5⟩)
        (first | (go_at_call 40; refine (eqCell_t _ _ _ _ _ _ S1.out S2.out WXk.out.1 WXk.out.2 WYk.out.1 WYk.out.2).mono ?_; rintro e w2 ⟨rfl, hb2⟩; obtain ⟨hcell, hfr⟩ := bcell hb2; have r0 := (hcell b _ hbb).trans h0; have r1 := (hcell b _ hbb).trans h1; have r2 := (hcell b _ hbb).trans h2; have r3 := (hcell b' _ hbb').trans h0'; have r4 := (hcell b' _ hbb').trans h1'; have r5 := (hcell b' _ hbb').trans h2'; clear hcell hfr; have hbz := below_go hb (below_of_drew hb2) hB))
      go_wp2_with fail
      go_roundw
      case rel => exact ⟨k + 1, hlt, by go_num, hbz⟩
      case measure => simp [intOf]; omega
    · have hkk : k = xs.length := by omega
      go_wp2_with fail
      go_ret
      exact ⟨rfl, hb⟩
theorem eqStore_t {B B' : Nat} (dt : Int) (A A' : Option Addr) (c c' : Nat) (xs ys : List Cl) (w : World) (hs : csSame xs ys) (wx : ∀ c ∈ xs, c.wf) (wy : ∀ c ∈ ys, c.wf) (hn : xs.length ≤ 1048576) (hA : AtB B w A (cvs xs)) (hA' : AtB B' w A' (cvs ys)) :
    Calls Tryd.prog 86 #[.agg #[.int .i64 dt, .slice A xs.length c], .agg #[.int .i64 dt, .slice A' ys.length c']] w fun e w' => e = .returned (.bool true) ∧ Below w.heap.size w w' := by
  have HS := hide hs
  have HA := hide hA.now
  have HA' := hide hA'.now
  have WX := hide wx
  have WY := hide wy
  clear hs hA hA' wx wy
  go_enter Tryd.func86, Tryd.ntmps86
  go_wp2_with (go_at_call 12; refine (eqCellS_t _ _ _ _ xs ys _ HS.out WX.out WY.out hn (HA.out.below (below_a2 _ _ _)) (HA'.out.below (below_a2 _ _ _))).mono ?_; rintro e w2 ⟨rfl, hb2⟩)
  go_ret
  exact ⟨rfl, below_go (below_a2 _ _ _) hb2 (by simp; omega)⟩
theorem eqStoreS_t {B B' : Nat} (A A' : Option Addr) (c c' : Nat) (xs ys : List (Value × Sr)) (w : World) (hlen : xs.length = ys.length) (hs : ∀ (k : Nat) (h1 : k < xs.length) (h2 : k < ys.length), srSame xs[k].2 ys[k].2)
    (wx : ∀ r ∈ xs, r.2.wf) (wy : ∀ r ∈ ys, r.2.wf) (hn : xs.length ≤ 1048576) (hn2 : ∀ r ∈ xs, r.2.cs.length ≤ 1048576) (hA : HpAt B w A xs) (hA' : HpAt B' w A' ys) :
    Calls Tryd.prog 41 #[.slice A xs.length c, .slice A' ys.length c'] w fun e w' => e = .returned (.bool true) ∧ Below w.heap.size w w' := by
  have HS := hide hs
  have HA := hide hA.now
  have HA' := hide hA'.now
  have WX := hide wx
  have WY := hide wy
  have HN2 := hide hn2
  have HL := hide hlen
  rw [← hlen]
  clear hs hA hA' wx wy hlen hn2
  go_enter Tryd.func41, Tryd.ntmps41
  go_wp2_with fail
  go_loopw [5] (fun i wr => ∃ k : Nat, k ≤ xs.length ∧ i = .int .i64 k ∧ Below w.heap.size w wr) (fun i _ => xs.length - (intOf i).toNat)
  case atStart => exact ⟨0, Nat.zero_le _, rfl, Below.refl _ _⟩
  case round =>
    obtain ⟨k, hk, rfl, hb⟩ := hrel
    have hB := hb.size
    by_cases hlt : k < xs.length
    · have hlt' : k < ys.length := by rw [← HL.out]; exact hlt
      obtain ⟨b, o, A1, c1, rfl, hbl, h0, h1, hc1, hA1⟩ := (HA.out.below hb).at_ hlt
      obtain ⟨b', o', A2, c2, rfl, hbl', h0', h1', hc2, hA2⟩ := (HA'.out.below hb).at_ hlt'
      obtain ⟨s0, s1⟩ := HS.out k hlt hlt'
      rw [← s0] at h0'
      have S1 := hide s1
      have HA1 := hide hA1
      have HA2 := hide hA2
      have WXk := hide (WX.out _ (List.getElem_mem hlt))
      have WYk := hide (WY.out _ (List.getElem_mem hlt'))
      have HNk := hide (HN2.out _ (List.getElem_mem hlt))
      clear s0 s1 hA1 hA2 hc1 hc2
      have hbb : b < wr.heap.size := by omega
      have hbb' : b' < wr.heap.size := by omega
      have l0 : (0 : Int) ≤ k := by omega
      have l1 : (k : Int) < xs.length := by omega
      go_wp2_with fail
      go_region_held3 (fun w' => w'.cell? ⟨b, o + k * 2, none⟩ = some (.int .i64 xs[k].2.dt) ∧ w'.cell? ⟨b, o + k * 2 + 1, none⟩ = some (.slice A1 xs[k].2.cs.length c1) ∧ w'.cell? ⟨b', o' + k * 2, none⟩ = some (.int .i64 xs[k].2.dt) ∧ w'.cell? ⟨b', o' + k * 2 + 1, none⟩ = some (.slice A2 ys[k].2.cs.length c2)) (first | exact ⟨h0, h1, h0', h1'⟩ | exact ⟨r0, r1, r2, r3⟩)
        (first | (go_at_call 86; refine (eqStore_t _ _ _ _ _ xs[k].2.cs ys[k].2.cs _ S1.out WXk.out WYk.out HNk.out (by exact HA1.out) (by exact HA2.out)).mono ?_; rintro e w2 ⟨rfl, hb2⟩; obtain ⟨hcell, hfr⟩ := bcell hb2; have r0 := (hcell b _ hbb).trans h0; have r1 := (hcell b _ hbb).trans h1; have r2 := (hcell b' _ hbb').trans h0'; have r3 := (hcell b' _ hbb').trans h1'; clear hcell hfr; have hbz := below_go hb (below_of_drew hb2) hB))
      go_wp2_with fail
      go_roundw
      case rel => exact ⟨k + 1, hlt, by go_num, hbz⟩
      case measure => simp [intOf]; omega
    · have hkk : k = xs.length := by omega
      go_wp2_with fail
      go_ret
      exact ⟨rfl, hb⟩
def hpSame (xs ys : List Sr) : Prop := xs.length = ys.length ∧ ∀ (k : Nat) (h1 : k < xs.length) (h2 : k < ys.length), srSame xs[k] ys[k]
theorem hpSame.refl (xs : List Sr) : hpSame xs xs := ⟨rfl, fun _ _ _ => srSame.refl _⟩
theorem eqHeap_t {B B' : Nat} (A A' : Option Addr) (c c' : Nat) (xs ys : List (Value × Sr)) (w : World) (hs : hpSame (xs.map (·.2)) (ys.map (·.2)))
    (wx : ∀ r ∈ xs, r.2.wf) (wy : ∀ r ∈ ys, r.2.wf) (hn : xs.length ≤ 1048576) (hn2 : ∀ r ∈ xs, r.2.cs.length ≤ 1048576) (hA : HpAt B w A xs) (hA' : HpAt B' w A' ys) :
    Calls Tryd.prog 13 #[.agg #[.slice A xs.length c], .agg #[.slice A' ys.length c']] w fun e w' => e = .returned (.bool true) ∧ Below w.heap.size w w' := by
  have hlen : xs.length = ys.length := by have := hs.1; simpa using this
  have hs' : ∀ (k : Nat) (h1 : k < xs.length) (h2 : k < ys.length), srSame xs[k].2 ys[k].2 := fun k h1 h2 => by
    have := hs.2 k (by simpa using h1) (by simpa using h2)
    simpa using this
  have HL := hide hlen
  have HS := hide hs'
  have HA := hide hA.now
  have HA' := hide hA'.now
  have WX := hide wx
  have WY := hide wy
  have HN2 := hide hn2
  clear hs hs' hA hA' wx wy hlen hn2
  go_enter Tryd.func13, Tryd.ntmps13
  go_wp2_with (go_at_call 41; refine (eqStoreS_t _ _ _ _ xs ys _ HL.out HS.out WX.out WY.out hn HN2.out (HA.out.below (below_a2 _ _ _)) (HA'.out.below (below_a2 _ _ _))).mono ?_; rintro e w2 ⟨rfl, hb2⟩)
  go_ret
  exact ⟨rfl, below_go (below_a2 _ _ _) hb2 (by simp; omega)⟩
theorem eqInt64S_t {B B' : Nat} (A A' : Option Addr) (c c' : Nat) (xs : List Int) (w : World) (hn : xs.length ≤ 1048576) (hA : AtB B w A (ivs xs)) (hA' : AtB B' w A' (ivs xs)) :
    Calls Tryd.prog 87 #[.slice A xs.length c, .slice A' xs.length c'] w fun e w' => e = .returned (.bool true) ∧ Below w.heap.size w w' := by
  have HA := hide hA.now
  have HA' := hide hA'.now
  clear hA hA'
  go_enter Tryd.func87, Tryd.ntmps87
  go_wp2_with fail
  go_loopw [5] (fun i wr => ∃ k : Nat, k ≤ xs.length ∧ i = .int .i64 k ∧ Below w.heap.size w wr) (fun i _ => xs.length - (intOf i).toNat)
  case atStart => exact ⟨0, Nat.zero_le _, rfl, Below.refl _ _⟩
  case round =>
    obtain ⟨k, hk, rfl, hb⟩ := hrel
    have hB := hb.size
    by_cases hlt : k < xs.length
    · obtain ⟨b, o, rfl, hbl, h0⟩ := at_int (HA.out.below hb) hlt
      obtain ⟨b', o', rfl, hbl', h0'⟩ := at_int (HA'.out.below hb) hlt
      have l0 : (0 : Int) ≤ k := by omega
      have l1 : (k : Int) < xs.length := by omega
      go_wp2_with fail
      go_quiet (fail)
      go_wp2_with fail
      go_roundw
      case rel => exact ⟨k + 1, hlt, by go_num, below_drewN hb _⟩
      case measure => simp [intOf]; omega
    · have hkk : k = xs.length := by omega
      go_wp2_with fail
      go_ret
      exact ⟨rfl, hb⟩
theorem eqView_t {B B' : Nat} (A1 A2 A1' A2' : Option Addr) (c1 c2 c1' c2' : Nat) (V : Vw) (w : World) (hn1 : V.sh.length ≤ 1048576) (hn2 : V.st.length ≤ 1048576) (h1 : AtB B w A1 (ivs V.sh)) (h2 : AtB B w A2 (ivs V.st)) (h1' : AtB B' w A1' (ivs V.sh)) (h2' : AtB B' w A2' (ivs V.st)) :
    Calls Tryd.prog 42 #[.agg #[.slice A1 V.sh.length c1, .slice A2 V.st.length c2, .int .i64 V.off], .agg #[.slice A1' V.sh.length c1', .slice A2' V.st.length c2', .int .i64 V.off]] w fun e w' => e = .returned (.bool true) ∧ Below w.heap.size w w' := by
  obtain ⟨sh, st, off⟩ := V
  dsimp only at hn1 hn2 h1 h2 h1' h2' ⊢
  have H1 := hide h1.now
  have H2 := hide h2.now
  have H1' := hide h1'.now
  have H2' := hide h2'.now
  clear h1 h2 h1' h2'
  go_enter Tryd.func42, Tryd.ntmps42
  go_wp2_with fail
  refine (eqInt64S_t _ _ _ _ sh _ hn1 (H1.out.below (below_a2 _ _ _)) (H1'.out.below (below_a2 _ _ _))).mono ?_
  rintro e w2 ⟨rfl, hb2⟩
  obtain ⟨hcell, hfr⟩ := bcell hb2
  have hb3 := below_go (below_a2 w _ _) hb2 (by simp; omega)
  go_wp2_with fail
  refine (eqInt64S_t _ _ _ _ st _ hn2 (H2.out.below hb3) (H2'.out.below hb3)).mono ?_
  rintro e w4 ⟨rfl, hb4⟩
  have hb5 := below_go hb3 hb4 hb3.size
  have hz := hb2.size
  have hz' : w.heap.size + 2 ≤ w2.heap.size := by simpa using hz
  obtain ⟨hcell4, hfr4⟩ := bcell hb4
  have g0 := hcell4 w.heap.size 2 (by omega)
  have g1 := hcell4 (w.heap.size + 1) 2 (by omega)
  go_wp2_with fail
  go_ret
  exact ⟨rfl, hb5⟩
theorem eqArray_t {B B' : Nat} (A1 A2 A1' A2' : Option Addr) (c1 c2 c1' c2' : Nat) (a : Ar) (w : World) (hn1 : a.v.sh.length ≤ 1048576) (hn2 : a.v.st.length ≤ 1048576) (h1 : AtB B w A1 (ivs a.v.sh)) (h2 : AtB B w A2 (ivs a.v.st)) (h1' : AtB B' w A1' (ivs a.v.sh)) (h2' : AtB B' w A2' (ivs a.v.st)) :
    Calls Tryd.prog 14 #[.agg #[.int .i64 a.s, .slice A1 a.v.sh.length c1, .slice A2 a.v.st.length c2, .int .i64 a.v.off], .agg #[.int .i64 a.s, .slice A1' a.v.sh.length c1', .slice A2' a.v.st.length c2', .int .i64 a.v.off]] w fun e w' => e = .returned (.bool true) ∧ Below w.heap.size w w' := by
  obtain ⟨sn, sh, st, off⟩ := a
  dsimp only at hn1 hn2 h1 h2 h1' h2' ⊢
  have H1 := hide h1.now
  have H2 := hide h2.now
  have H1' := hide h1'.now
  have H2' := hide h2'.now
  clear h1 h2 h1' h2'
  go_enter Tryd.func14, Tryd.ntmps14
  go_wp2_with fail
  refine (eqView_t _ _ _ _ _ _ _ _ ⟨sh, st, off⟩ _ hn1 hn2 (H1.out.below (below_a2 _ _ _)) (H2.out.below (below_a2 _ _ _)) (H1'.out.below (below_a2 _ _ _)) (H2'.out.below (below_a2 _ _ _))).mono ?_
  rintro e w2 ⟨rfl, hb2⟩
  have hb3 := below_go (below_a2 w _ _) hb2 (by simp; omega)
  go_wp2_with fail
  go_ret
  exact ⟨rfl, hb3⟩
end Go.Proofs.YtnmnkiihbopebaaDoor
