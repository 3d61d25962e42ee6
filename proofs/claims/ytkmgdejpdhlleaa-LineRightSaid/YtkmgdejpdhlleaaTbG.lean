/- The table of least steps, plain: put, rows, sweeps, the steps of a graph that may run. No program in sight. -/
import Derived.Test.YtkmgdejpdhlleaaPaP
import Derived.Test.YtkmgdejpdhlleaaVaP
namespace Go.Proofs.Ytkmgdejpdhlleaa.Pa
set_option linter.unusedSimpArgs false
set_option linter.unusedVariables false
set_option maxRecDepth 100000
open Go.RowKit

/-- All right steps are among finitely many. -/
theorem all_hops : ∃ U : List Hp, ∀ h, hopB h = true → h ∈ U := by
  obtain ⟨A, hA⟩ : ∃ A : List Int, ∀ x : Int, 0 ≤ x → x ≤ 1048576 → x ∈ A := ⟨(List.range 1048577).map Int.ofNat, fun x h0 h1 => List.mem_map.2 ⟨x.toNat, List.mem_range.2 (by omega), by show (x.toNat : Int) = x; omega⟩⟩
  refine ⟨A.flatMap fun f => A.flatMap fun k => A.flatMap fun l => A.flatMap fun a => A.flatMap fun b => A.flatMap fun c => A.flatMap fun e => A.flatMap fun p => A.flatMap fun q => A.flatMap fun r => A.map fun s => ⟨f, k, l, a, b, c, e, p, q, r, s⟩, fun h hh => ?_⟩
  obtain ⟨hb, hw1, hw2⟩ := (hopB_iff h).1 hh
  have w : ∀ {a b c e n : Int}, withinB a b c e n = true → (a ∈ A ∧ b ∈ A) ∧ c ∈ A ∧ e ∈ A := fun {a b c e n} hw => by
    have : ∀ k : Nat, k < 4 → 0 ≤ cAt a b c e k ∧ cAt a b c e k ≤ 1048576 := fun k hk => by
      apply Classical.byContradiction
      intro hn
      have := withinB_false a b c e n k hk (fun h => hn ⟨h.1, h.2.1⟩)
      rw [hw] at this
      cases this
    have h0 := this 0 (by decide)
    have h1 := this 1 (by decide)
    have h2 := this 2 (by decide)
    have h3 := this 3 (by decide)
    exact ⟨⟨hA a h0.1 h0.2, hA b h1.1 h1.2⟩, hA c h2.1 h2.2, hA e h3.1 h3.2⟩
  obtain ⟨⟨ga, gb⟩, gc, ge⟩ := w hw1
  obtain ⟨⟨gp, gq⟩, gr, gs⟩ := w hw2
  simp only [List.mem_flatMap, List.mem_map]
  exact ⟨h.f, hA _ (by omega) (by omega), h.k, hA _ (by omega) (by omega), h.l, hA _ (by omega) (by omega), h.a, ga, h.b, gb, h.c, gc, h.e, ge, h.p, gp, h.q, gq, h.r, gr, h.s, gs, rfl⟩
/-- How many right steps are above none of a list. -/
noncomputable def opn (l : List Hp) : Nat := (all_hops.choose.filter fun h => !l.any fun x => leHB x h).length
theorem filter_lt {α : Type} {P Q : α → Bool} (hPQ : ∀ x, P x = true → Q x = true) : ∀ {l : List α} {x : α}, x ∈ l → Q x = true → P x = false → (l.filter P).length < (l.filter Q).length
  | a :: l, x, hx, hq, hp => by
    have le : ∀ l : List α, (l.filter P).length ≤ (l.filter Q).length := fun l => by
      induction l with
      | nil => exact Nat.le_refl _
      | cons a l ih =>
        simp only [List.filter_cons]
        cases ha : P a
        · cases Q a
          · exact ih
          · exact Nat.le_succ_of_le ih
        · rw [hPQ a ha]
          exact Nat.succ_le_succ ih
    simp only [List.filter_cons]
    rcases List.mem_cons.1 hx with rfl | hx
    · rw [hp, hq]
      exact Nat.lt_succ_of_le (le l)
    · have ih := filter_lt hPQ hx hq hp
      cases ha : P a
      · cases Q a
        · exact ih
        · exact Nat.lt_succ_of_lt ih
      · rw [hPQ a ha]
        exact Nat.succ_lt_succ ih
  | [], _, hx, _, _ => by cases hx
theorem put_mono {l : List Hp} {x y : Hp} (hy : y ∈ l) (hr : hopB y = true) : ∃ z ∈ (putS l x).1, leHB z y = true := by
  unfold putS
  split
  · exact ⟨y, hy, leH_refl hr⟩
  · split
    · exact ⟨y, hy, leH_refl hr⟩
    · next hx _ =>
      have hx : hopB x = true := by simpa using hx
      cases h : leHB x y
      · exact ⟨y, List.mem_append_left _ (List.mem_filter.2 ⟨hy, by rw [h]; rfl⟩), leH_refl hr⟩
      · exact ⟨x, List.mem_append_right _ List.mem_cons_self, h⟩
theorem put_mem {l : List Hp} {x y : Hp} (hy : y ∈ (putS l x).1) : y ∈ l ∨ (y = x ∧ hopB x = true ∧ l.any (fun z => leHB z x) = false) := by
  unfold putS at hy
  split at hy
  · exact .inl hy
  · split at hy
    · exact .inl hy
    · next hx ha =>
      rcases List.mem_append.1 hy with hy | hy
      · exact .inl (List.mem_filter.1 hy).1
      · exact .inr ⟨List.mem_singleton.1 hy, by simpa using hx, by simpa using ha⟩
/-- Put says true just if something is new; then less is open. -/
theorem put_open {l : List Hp} {x : Hp} (hl : ∀ y ∈ l, hopB y = true) : ((putS l x).2 = true → opn (putS l x).1 < opn l) ∧ opn (putS l x).1 ≤ opn l := by
  have mono : ∀ h, (!(putS l x).1.any fun y => leHB y h) = true → (!l.any fun y => leHB y h) = true := fun h hh => by
    rw [Bool.not_eq_true', List.any_eq_false] at hh ⊢
    intro y hy hle
    obtain ⟨z, hz, hzy⟩ := put_mono (x := x) hy (hl y hy)
    exact hh z hz (le_trans hzy hle)
  have hle : opn (putS l x).1 ≤ opn l := by
    unfold opn
    induction all_hops.choose with
    | nil => exact Nat.le_refl _
    | cons a U ih =>
      simp only [List.filter_cons]
      cases ha : (!(putS l x).1.any fun y => leHB y a)
      · cases (!l.any fun y => leHB y a)
        · exact ih
        · exact Nat.le_succ_of_le ih
      · rw [mono a ha]
        exact Nat.succ_le_succ ih
  refine ⟨fun h => ?_, hle⟩
  have hx : hopB x = true ∧ l.any (fun z => leHB z x) = false ∧ x ∈ (putS l x).1 := by
    unfold putS at h ⊢
    split at h
    · cases h
    · split at h
      · cases h
      · next h1 h2 =>
        rw [if_neg h1, if_neg h2]
        exact ⟨by simpa using h1, by simpa using h2, List.mem_append_right _ List.mem_cons_self⟩
  obtain ⟨h1, h2, h3⟩ := hx
  unfold opn
  refine filter_lt mono (all_hops.choose_spec x h1) (by rw [h2]; rfl) ?_
  rw [Bool.not_eq_false', List.any_eq_true]
  exact ⟨x, h3, leH_refl h1⟩
theorem put_same {l : List Hp} {x : Hp} (h : (putS l x).2 = false) : (putS l x).1 = l := by
  unfold putS at h ⊢
  split
  · rfl
  · split
    · rfl
    · next h1 h2 =>
      rw [if_neg h1, if_neg h2] at h
      cases h
/-- One of a list is at or before what was put, if it is right. -/
theorem put_below {l : List Hp} {x : Hp} (hx : hopB x = true) : ∃ z ∈ (putS l x).1, leHB z x = true := by
  unfold putS
  rw [if_neg (by rw [hx]; decide)]
  split
  · next h => obtain ⟨z, hz, hzx⟩ := List.any_eq_true.1 h; exact ⟨z, hz, hzx⟩
  · exact ⟨x, List.mem_append_right _ List.mem_cons_self, leH_refl hx⟩
/-- No two of a list stand in order. -/
def Anti (l : List Hp) : Prop := ∀ x ∈ l, ∀ y ∈ l, leHB x y = true → x = y
theorem put_anti {l : List Hp} {x : Hp} (h : Anti l) : Anti (putS l x).1 := by
  unfold putS
  split
  · exact h
  · split
    · exact h
    · next hx ha =>
      have ha : ∀ z ∈ l, leHB z x = false := fun z hz => by
        have := List.any_eq_false.1 (by simpa using ha : (l.any fun z => leHB z x) = false) z hz
        simpa using this
      intro y hy z hz hle
      rcases List.mem_append.1 hy with hy | hy <;> rcases List.mem_append.1 hz with hz | hz
      · exact h y (List.mem_filter.1 hy).1 z (List.mem_filter.1 hz).1 hle
      · obtain rfl := List.mem_singleton.1 hz
        rw [ha y (List.mem_filter.1 hy).1] at hle
        cases hle
      · obtain rfl := List.mem_singleton.1 hy
        have := (List.mem_filter.1 hz).2
        rw [hle] at this
        cases this
      · rw [List.mem_singleton.1 hy, List.mem_singleton.1 hz]
theorem nodup_len : ∀ (N : Nat) (l : List Nat), l.Nodup → (∀ x ∈ l, x < N) → l.length ≤ N
  | 0, [], _, _ => Nat.le_refl _
  | 0, a :: l, _, h => absurd (h a List.mem_cons_self) (Nat.not_lt_zero _)
  | N + 1, l, hn, h => by
    have h1 := nodup_len N (l.filter fun x => decide (x ≠ N)) (hn.filter _) (fun x hx => by
      obtain ⟨h1, h2⟩ := List.mem_filter.1 hx
      have := h x h1
      have h2 : x ≠ N := by simpa using h2
      omega)
    have h2 : ∀ l : List Nat, l.Nodup → l.length ≤ (l.filter fun x => decide (x ≠ N)).length + 1 := fun l => by
      induction l with
      | nil => intro _; exact Nat.zero_le _
      | cons a l ih =>
        intro hn
        obtain ⟨ha, hn⟩ := List.nodup_cons.1 hn
        by_cases e : a = N
        · subst e
          have : (l.filter fun x => decide (x ≠ a)) = l := List.filter_eq_self.2 fun x hx => by
            have : x ≠ a := fun e => ha (e ▸ hx)
            simpa using this
          rw [List.filter_cons_of_neg (by simp), this]
          exact Nat.le_refl _
        · rw [List.filter_cons_of_pos (by simpa using e)]
          exact Nat.succ_le_succ (ih hn)
    have := h2 l hn
    omega
theorem nodup_map {α : Type} {f : α → Nat} : ∀ {l : List α}, l.Nodup → (∀ x ∈ l, ∀ y ∈ l, f x = f y → x = y) → (l.map f).Nodup
  | [], _, _ => List.nodup_nil
  | a :: l, hn, h => by
    obtain ⟨ha, hn⟩ := List.nodup_cons.1 hn
    refine List.nodup_cons.2 ⟨fun hm => ?_, nodup_map hn fun x hx y hy => h x (List.mem_cons_of_mem _ hx) y (List.mem_cons_of_mem _ hy)⟩
    obtain ⟨b, hb, hfb⟩ := List.mem_map.1 hm
    have := h b (List.mem_cons_of_mem _ hb) a List.mem_cons_self hfb
    rw [this] at hb
    exact ha hb
/-- A graph as steps: the depth at each operator, each operator's step, its edges. -/
structure Sg where
  N : Nat
  dep : Nat → Int
  st : Nat → Hp
  ed : List (Nat × Nat)
/-- What is right about the edges of a graph that may run. -/
structure EdOk' (G : Sg) (m k : Nat) : Prop where
  hm : m < G.N
  hk : k < G.N
  r : hopB (G.st m) = true
  f : (G.st m).f = G.dep m
  g : (G.st m).k + (G.st m).l = G.dep k
  k1 : 1 ≤ (G.st m).k
  v0 : atV (G.st m) 0 = 0
  v : ∀ p : Int, p = 1 ∨ p = 2 → p + 1 ≤ G.dep k → (p + 1 ≤ G.dep m ∧ p < (G.st m).k ∧ atV (G.st m) p = 0) ∨ (G.dep m = p + 1 ∧ G.dep k = p + 1 ∧ p < (G.st m).k ∧ atV (G.st m) p = 1) ∨ (G.dep m = p ∧ atV (G.st m) p = 0)
  self : m = k → (G.st m).l = 0
def SgOk (G : Sg) : Prop := ∀ e ∈ G.ed, EdOk' G e.1 e.2
/-- A row: of each operator its steps. -/
def rg (R : List (List Hp)) (m : Nat) : List Hp := (R[m]?).getD []
/-- One at this depth that is at or before another one there, and lower in its loop's number. -/
structure LtP (p : Int) (y x : Hp) : Prop where
  g : y.k + y.l = p + 1
  f : y.f = x.f
  k : ∀ i : Int, 0 ≤ i → i ≤ p → i < y.k → i < x.k
  v : ∀ i : Int, 0 ≤ i → i < p → atV y i ≤ atV x i
  vp : atV y p < atV x p
theorem LtP.le {p : Int} {z y x : Hp} (hp : 0 ≤ p) (h : LtP p y x) (hz : leHB z y = true) : LtP p z x := by
  obtain ⟨h1, h2, h3, h4, h5⟩ := (leH_iff z y).1 hz
  have g := h.g
  have vp := h.vp
  have ap := h5 p hp (by omega)
  exact ⟨by omega, h3.trans h.f, fun i i0 i1 hi => h.k i i0 i1 ((h5 i i0 (by omega)).1 hi), fun i i0 i1 => Int.le_trans (h5 i i0 (by omega)).2 (h.v i i0 i1), by omega⟩
/-- What a step of a row is like. -/
structure El (G : Sg) (d0 : Int) (R : List (List Hp)) (m : Nat) (x : Hp) : Prop where
  r : hopB x = true
  f : x.f = d0
  g : x.k + x.l = G.dep m
  k : 1 ≤ x.k
  v0 : atV x 0 = 0
  b : ∀ p : Int, p = 1 ∨ p = 2 → p + 1 ≤ G.dep m → ∃ B : List Nat, B.Nodup ∧ (∀ b ∈ B, b < G.N) ∧ atV x p ≤ (B.length : Int) ∧ ∀ b ∈ B, ∃ y ∈ rg R b, LtP p y x
structure RwOk (G : Sg) (d0 : Int) (R : List (List Hp)) : Prop where
  len : R.length = G.N
  el : ∀ m x, x ∈ rg R m → El G d0 R m x
  an : ∀ m, Anti (rg R m)
/-- A row that has of each step of another one one at or before it. -/
def Mo (R R' : List (List Hp)) : Prop := ∀ m x, x ∈ rg R m → hopB x = true → ∃ y ∈ rg R' m, leHB y x = true
theorem El.mono {G : Sg} {d0 : Int} {R R' : List (List Hp)} {m : Nat} {x : Hp} (h : El G d0 R m x) (hm : Mo R R') (hr : ∀ b y, y ∈ rg R b → hopB y = true) : El G d0 R' m x := ⟨h.r, h.f, h.g, h.k, h.v0, fun p hp hd => by
  obtain ⟨B, h1, h2, h3, h4⟩ := h.b p hp hd
  refine ⟨B, h1, h2, h3, fun b hb => ?_⟩
  obtain ⟨y, hy, hl⟩ := h4 b hb
  obtain ⟨z, hz, hzy⟩ := hm b y hy (hr b y hy)
  exact ⟨z, hz, hl.le (by omega) hzy⟩⟩
theorem rg_set {R : List (List Hp)} {k : Nat} {l : List Hp} (hk : k < R.length) (m : Nat) : rg (R.set k l) m = if m = k then l else rg R m := by
  unfold rg
  rw [List.getElem?_set]
  by_cases h : k = m
  · subst h
    rw [if_pos rfl, if_pos rfl, if_pos hk]
    rfl
  · rw [if_neg h, if_neg (fun e => h e.symm)]
/-- A step of a row, and that of an operator: what they make is like a step of the row behind. -/
theorem el_step {G : Sg} {d0 : Int} {R : List (List Hp)} {m k : Nat} {h : Hp} (hR : RwOk G d0 R) (he : EdOk' G m k) (hh : h ∈ rg R m) (ho : thOk h (G.st m) = true) : El G d0 R k (thR h (G.st m)) := by
  have hE := hR.el m h hh
  unfold thOk at ho
  have hx : thR h (G.st m) = thenH h (G.st m) := by unfold thR; rw [if_pos (by unfold thOk; exact ho)]
  simp only [Bool.and_eq_true, decide_eq_true_eq] at ho
  obtain ⟨⟨⟨o1, o2⟩, o3⟩, o4⟩ := ho
  rw [hx]
  obtain ⟨t1, t2, t3⟩ := then_fkl (x := h) (y := G.st m) o1 o2 o3
  have tV : ∀ i : Int, 0 ≤ i → i < G.dep k → atV (thenH h (G.st m)) i = (if i < (G.st m).k then atV h i else 0) + atV (G.st m) i := fun i i0 i1 => then_V (x := h) (y := G.st m) o1 o2 o3 i0 (by rw [he.g]; exact i1)
  have hk1 := he.k1
  have hgk := he.g
  have hEk := hE.k
  have hb := hopB_bd o2
  have mk : (thenH h (G.st m)).k = h.k ∨ (thenH h (G.st m)).k = (G.st m).k := by rw [t2]; unfold imin; split <;> simp
  have mk2 : (thenH h (G.st m)).k ≤ h.k ∧ (thenH h (G.st m)).k ≤ (G.st m).k := by rw [t2]; unfold imin; split <;> omega
  refine ⟨o4, t1.trans hE.f, t3.trans he.g, by omega, ?_, fun p hp hd => ?_⟩
  · rw [tV 0 (by omega) (by omega), if_pos (by omega), hE.v0, he.v0]
    rfl
  have up : ∀ i : Int, 0 ≤ i → i < G.dep k → i < (G.st m).k → atV h i ≤ atV (thenH h (G.st m)) i := fun i i0 i1 i2 => by
    rw [tV i i0 i1, if_pos i2]
    have := V_pos o2 i0 (show i < (G.st m).k + (G.st m).l by omega)
    omega
  rcases he.v p hp hd with ⟨c1, c2, c3⟩ | ⟨c1, c2, c3, c4⟩ | ⟨c1, c2⟩
  · obtain ⟨B, b1, b2, b3, b4⟩ := hE.b p hp c1
    have e1 : atV (thenH h (G.st m)) p = atV h p := by rw [tV p (by omega) (by omega), if_pos c2, c3]; omega
    refine ⟨B, b1, b2, by rw [e1]; exact b3, fun b hb' => ?_⟩
    obtain ⟨y, hy, hl⟩ := b4 b hb'
    refine ⟨y, hy, hl.g, hl.f.trans t1.symm, fun i i0 i1 h' => ?_, fun i i0 i1 => Int.le_trans (hl.v i i0 i1) (up i i0 (by omega) (by omega)), by rw [e1]; exact hl.vp⟩
    have := hl.k i i0 i1 h'
    omega
  · obtain ⟨B, b1, b2, b3, b4⟩ := hE.b p hp (by omega)
    have e1 : atV (thenH h (G.st m)) p = atV h p + 1 := by rw [tV p (by omega) (by omega), if_pos c3, c4]
    have hgh := hE.g
    have hnew : LtP p h (thenH h (G.st m)) := ⟨by omega, t1.symm, fun i i0 i1 h' => by omega, fun i i0 i1 => up i i0 (by omega) (by omega), by rw [e1]; omega⟩
    have hno : m ∉ B := fun hm => by
      obtain ⟨y, hy, hl⟩ := b4 m hm
      have hyE := hR.el m y hy
      have hlg := hl.g
      have hle : leHB y h = true := (leH_iff y h).2 ⟨hyE.r, hE.r, hl.f, by rw [hl.g, hgh, c1], fun i i0 i1 => by
        refine ⟨hl.k i i0 (by omega), ?_⟩
        by_cases e : i = p
        · have := hl.vp
          rw [e]
          omega
        · exact hl.v i i0 (by omega)⟩
      have := hR.an m y hy h hh hle
      have v1 := hl.vp
      rw [this] at v1
      omega
    refine ⟨m :: B, List.nodup_cons.2 ⟨hno, b1⟩, fun b hb' => ?_, ?_, fun b hb' => ?_⟩
    · rcases List.mem_cons.1 hb' with rfl | hb'
      · exact he.hm
      · exact b2 b hb'
    · rw [e1, List.length_cons]
      omega
    · rcases List.mem_cons.1 hb' with rfl | hb'
      · exact ⟨h, hh, hnew⟩
      · obtain ⟨y, hy, hl⟩ := b4 b hb'
        have v1 := hl.vp
        refine ⟨y, hy, hl.g, hl.f.trans t1.symm, fun i i0 i1 h' => ?_, fun i i0 i1 => Int.le_trans (hl.v i i0 i1) (up i i0 (by omega) (by omega)), by rw [e1]; omega⟩
        have := hl.k i i0 i1 h'
        omega
  · have e1 : atV (thenH h (G.st m)) p = 0 := by
      rw [tV p (by omega) (by omega), c2, if_neg]
      · rfl
      · have := he.f
        omega
    exact ⟨[], List.nodup_nil, nofun, by rw [e1]; exact Int.le_refl _, nofun⟩
/-- A row stays as it must be when a step is put. -/
theorem RwOk.put {G : Sg} {d0 : Int} {R : List (List Hp)} {k : Nat} {x : Hp} (hR : RwOk G d0 R) (hk : k < G.N) (hx : El G d0 R k x) : RwOk G d0 (R.set k (putS (rg R k) x).1) ∧ Mo R (R.set k (putS (rg R k) x).1) := by
  have hkl : k < R.length := by rw [hR.len]; exact hk
  have hr : ∀ b y, y ∈ rg R b → hopB y = true := fun b y hy => (hR.el b y hy).r
  have hm : Mo R (R.set k (putS (rg R k) x).1) := fun m y hy hyr => by
    rw [rg_set hkl]
    by_cases e : m = k
    · rw [if_pos e]
      subst e
      exact put_mono hy hyr
    · rw [if_neg e]
      exact ⟨y, hy, leH_refl hyr⟩
  refine ⟨⟨by rw [List.length_set]; exact hR.len, fun m y hy => ?_, fun m => ?_⟩, hm⟩
  · rw [rg_set hkl] at hy
    by_cases e : m = k
    · rw [if_pos e] at hy
      subst e
      rcases put_mem hy with h | ⟨rfl, -, -⟩
      · exact (hR.el m y h).mono hm hr
      · exact hx.mono hm hr
    · rw [if_neg e] at hy
      exact (hR.el m y hy).mono hm hr
  · rw [rg_set hkl]
    by_cases e : m = k
    · rw [if_pos e]
      exact put_anti (hR.an k)
    · rw [if_neg e]
      exact hR.an m
theorem anti_nodup_len {l : List Hp} (hn : l.Nodup) {f : Hp → Nat} {N : Nat} (hi : ∀ x ∈ l, ∀ y ∈ l, f x = f y → x = y) (hb : ∀ x ∈ l, f x < N) : l.length ≤ N := by
  have := nodup_len N (l.map f) (nodup_map hn hi) (fun z hz => by
    obtain ⟨x, hx, rfl⟩ := List.mem_map.1 hz
    exact hb x hx)
  rwa [List.length_map] at this
theorem put_nodup {l : List Hp} {x : Hp} (h : l.Nodup) (hl : ∀ y ∈ l, hopB y = true) : (putS l x).1.Nodup := by
  unfold putS
  split
  · exact h
  · split
    · exact h
    · next hx ha =>
      refine List.nodup_append.2 ⟨h.filter _, by simp, fun a ha' b hb => ?_⟩
      obtain rfl := List.mem_singleton.1 hb
      rintro rfl
      have h1 := List.any_eq_false.1 (by simpa using ha : (l.any fun z => leHB z a) = false) a (List.mem_filter.1 ha').1
      rw [leH_refl (hl a (List.mem_filter.1 ha').1)] at h1
      exact h1 rfl
/-- How long the lists of a row may be. -/
theorem rw_len {G : Sg} {d0 : Int} {R : List (List Hp)} (hR : RwOk G d0 R) (hN : G.N ≤ 32) (m : Nat) (hn : (rg R m).Nodup) : (rg R m).length ≤ 5445 := by
  have hE := hR.el m
  have vv : ∀ x ∈ rg R m, ∀ p : Int, p = 1 ∨ p = 2 → p + 1 ≤ G.dep m → 0 ≤ atV x p ∧ atV x p ≤ 32 := fun x hx p hp hd => by
    have h := hE x hx
    obtain ⟨B, b1, b2, b3, -⟩ := h.b p hp hd
    have := nodup_len G.N B b1 b2
    have hg := h.g
    exact ⟨V_pos h.r (by omega) (by omega), by omega⟩
  have v1 := fun x hx hd => vv x hx 1 (.inl rfl) hd
  have v2 : ∀ x ∈ rg R m, 3 ≤ G.dep m → 0 ≤ atV x 2 ∧ atV x 2 ≤ 32 := fun x hx hd => vv x hx 2 (.inr rfl) (by omega)
  have inj : ∀ x ∈ rg R m, ∀ y ∈ rg R m, x.k = y.k → (2 ≤ G.dep m → atV x 1 = atV y 1) → (3 ≤ G.dep m → atV x 2 = atV y 2) → x = y := fun x hx y hy hk h1 h2 => by
    have ex := hE x hx
    have ey := hE y hy
    have gx := ex.g
    have gy := ey.g
    have bx := hopB_bd ex.r
    rcases Int.le_total (atV x 3) (atV y 3) with hle | hle
    · refine hR.an m x hx y hy ((leH_iff x y).2 ⟨ex.r, ey.r, ex.f.trans ey.f.symm, by omega, fun i i0 i1 => ⟨fun h => by omega, ?_⟩⟩)
      have : i = 0 ∨ i = 1 ∨ i = 2 ∨ i = 3 := by omega
      rcases this with rfl | rfl | rfl | rfl
      · rw [ex.v0, ey.v0]; exact Int.le_refl _
      · rw [h1 (by omega)]; exact Int.le_refl _
      · rw [h2 (by omega)]; exact Int.le_refl _
      · exact hle
    · refine (hR.an m y hy x hx ((leH_iff y x).2 ⟨ey.r, ex.r, ey.f.trans ex.f.symm, by omega, fun i i0 i1 => ⟨fun h => by omega, ?_⟩⟩)).symm
      have : i = 0 ∨ i = 1 ∨ i = 2 ∨ i = 3 := by omega
      rcases this with rfl | rfl | rfl | rfl
      · rw [ex.v0, ey.v0]; exact Int.le_refl _
      · rw [h1 (by omega)]; exact Int.le_refl _
      · rw [h2 (by omega)]; exact Int.le_refl _
      · exact hle
  refine Nat.le_trans (anti_nodup_len (N := 5 * 33 * 33) hn (f := fun x => (x.k.toNat * 33 + (if 2 ≤ G.dep m then (atV x 1).toNat else 0)) * 33 + (if 3 ≤ G.dep m then (atV x 2).toNat else 0)) (fun x hx y hy he => ?_) (fun x hx => ?_)) (by decide)
  · have a1 := v1 x hx
    have a2 := v1 y hy
    have a3 := v2 x hx
    have a4 := v2 y hy
    have bx := hopB_bd (hE x hx).r
    have by' := hopB_bd (hE y hy).r
    by_cases d2 : 2 ≤ G.dep m
    · by_cases d3 : 3 ≤ G.dep m
      · rw [if_pos d2, if_pos d2, if_pos d3, if_pos d3] at he
        have := a1 d2
        have := a2 d2
        have := a3 d3
        have := a4 d3
        exact inj x hx y hy (by omega) (fun _ => by omega) (fun _ => by omega)
      · rw [if_pos d2, if_pos d2, if_neg d3, if_neg d3] at he
        have := a1 d2
        have := a2 d2
        exact inj x hx y hy (by omega) (fun _ => by omega) (fun h => absurd h d3)
    · rw [if_neg d2, if_neg d2, if_neg (by omega), if_neg (by omega)] at he
      exact inj x hx y hy (by omega) (fun h => absurd h d2) (fun h => absurd h (by omega))
  · have a1 := v1 x hx
    have a3 := v2 x hx
    have bx := hopB_bd (hE x hx).r
    have h1 : (if 2 ≤ G.dep m then (atV x 1).toNat else 0) ≤ 32 := by
      split
      · next d2 => have := a1 d2; omega
      · omega
    have h2 : (if 3 ≤ G.dep m then (atV x 2).toNat else 0) ≤ 32 := by
      split
      · next d3 => have := a3 d3; omega
      · omega
    have h3 : x.k.toNat ≤ 4 := by omega
    generalize (if 2 ≤ G.dep m then (atV x 1).toNat else 0) = p at h1
    generalize (if 3 ≤ G.dep m then (atV x 2).toNat else 0) = q at h2
    generalize x.k.toNat = r at h3
    omega
/-- A step of an operator behind each of some. -/
def edF (s : Hp) (t : Nat) : List Hp → List (List Hp) × Bool → List (List Hp) × Bool
  | [], a => a
  | h :: L, a => edF s t L (if thOk h s = true then (a.1.set t (putS (rg a.1 t) (thR h s)).1, a.2 || (putS (rg a.1 t) (thR h s)).2) else a)
/-- Along all edges. -/
def swF (st : Nat → Hp) : List (Nat × Nat) → List (List Hp) × Bool → List (List Hp) × Bool
  | [], a => a
  | e :: es, a => swF st es (edF (st e.1) e.2 (rg a.1 e.1) a)
/-- As long as something is new. -/
def itF (G : Sg) : Nat → List (List Hp) → List (List Hp)
  | 0, R => R
  | f + 1, R => if (swF G.st G.ed (R, false)).2 = true then itF G f (swF G.st G.ed (R, false)).1 else (swF G.st G.ed (R, false)).1
noncomputable def osum (R : List (List Hp)) : Nat := (R.map opn).sum
theorem osum_set : ∀ {R : List (List Hp)} {k : Nat} {l : List Hp}, k < R.length → osum (R.set k l) + opn (rg R k) = osum R + opn l
  | [], k, l, h => by simp at h
  | a :: R, 0, l, _ => by
    show opn l + osum R + opn a = opn a + osum R + opn l
    omega
  | a :: R, k + 1, l, h => by
    have ih := osum_set (R := R) (k := k) (l := l) (by simpa using h)
    show opn a + osum (R.set k l) + opn (rg R k) = opn a + osum R + opn l
    omega
/-- All that is known of a row while it is made. -/
structure Ri (G : Sg) (d0 : Int) (R : List (List Hp)) : Prop where
  ok : RwOk G d0 R
  nd : ∀ m, (rg R m).Nodup
theorem Ri.r {G : Sg} {d0 : Int} {R : List (List Hp)} (h : Ri G d0 R) : ∀ b y, y ∈ rg R b → hopB y = true := fun b y hy => (h.ok.el b y hy).r
theorem Mo.refl {G : Sg} {d0 : Int} {R : List (List Hp)} : Mo R R := fun m x hx hr => ⟨x, hx, leH_refl hr⟩
theorem Mo.trans {R S T : List (List Hp)} (h : Mo R S) (k : Mo S T) : Mo R T := fun m x hx hr => by
  obtain ⟨y, hy, hyx⟩ := h m x hx hr
  obtain ⟨z, hz, hzy⟩ := k m y hy ((leH_iff y x).1 hyx).1
  exact ⟨z, hz, le_trans hzy hyx⟩
/-- A step keeps what it does not leave, when it goes back to where it was. -/
theorem self_le {G : Sg} {m : Nat} {h : Hp} (he : EdOk' G m m) (ho : thOk h (G.st m) = true) : leHB h (thR h (G.st m)) = true := by
  have hx : thR h (G.st m) = thenH h (G.st m) := by unfold thR; rw [if_pos ho]
  have ho' := ho
  unfold thOk at ho
  simp only [Bool.and_eq_true, decide_eq_true_eq] at ho
  obtain ⟨⟨⟨o1, o2⟩, o3⟩, o4⟩ := ho
  obtain ⟨t1, t2, t3⟩ := then_fkl (x := h) (y := G.st m) o1 o2 o3
  have hl := he.self rfl
  have hg := he.g
  have hf := he.f
  have hb := hopB_bd o1
  have hk : (thenH h (G.st m)).k = h.k := by rw [t2]; unfold imin; split <;> omega
  rw [hx]
  refine (leH_iff _ _).2 ⟨o1, o4, t1.symm, by omega, fun i i0 i1 => ⟨fun h' => by omega, ?_⟩⟩
  rw [then_V (x := h) (y := G.st m) o1 o2 o3 i0 (by omega), if_pos (by omega)]
  have := V_pos o2 i0 (show i < (G.st m).k + (G.st m).l by omega)
  omega
theorem put_no {l : List Hp} {x z : Hp} (hz : z ∈ l) (h : leHB z x = true) : putS l x = (l, false) := by
  unfold putS
  split
  · rfl
  · rw [if_pos (List.any_eq_true.2 ⟨z, hz, h⟩)]
/-- One step put, in a row that is made. -/
theorem one_ok {G : Sg} {d0 : Int} {R0 R : List (List Hp)} {m k : Nat} {h : Hp} (hR : Ri G d0 R) (he : EdOk' G m k) (hm : Mo R0 R) (hs : m ≠ k → rg R m = rg R0 m) (h0 : Ri G d0 R0) (hh : h ∈ rg R0 m) (ho : thOk h (G.st m) = true) :
    Ri G d0 (R.set k (putS (rg R k) (thR h (G.st m))).1) ∧ Mo R (R.set k (putS (rg R k) (thR h (G.st m))).1) ∧ osum (R.set k (putS (rg R k) (thR h (G.st m))).1) ≤ osum R ∧ ((putS (rg R k) (thR h (G.st m))).2 = true → osum (R.set k (putS (rg R k) (thR h (G.st m))).1) < osum R) := by
  have hkl : k < R.length := by rw [hR.ok.len]; exact he.hk
  have hsum := osum_set (R := R) (k := k) (l := (putS (rg R k) (thR h (G.st m))).1) hkl
  obtain ⟨po, pl⟩ := put_open (x := thR h (G.st m)) (hR.r k)
  by_cases e : m = k
  · subst e
    obtain ⟨z, hz, hzh⟩ := hm m h hh (h0.r m h hh)
    have hno := put_no hz (le_trans hzh (self_le he ho))
    rw [hno] at hsum ⊢
    have hsame : R.set m (rg R m) = R := by
      unfold rg
      rw [List.getElem?_eq_getElem hkl]
      exact List.set_getElem_self hkl
    dsimp only
    rw [hsame]
    exact ⟨hR, Mo.refl (G := G) (d0 := d0), Nat.le_refl _, fun h => by cases h⟩
  · have hh' : h ∈ rg R m := by rw [hs e]; exact hh
    obtain ⟨r1, r2⟩ := hR.ok.put he.hk (el_step hR.ok he hh' ho)
    refine ⟨⟨r1, fun b => ?_⟩, r2, by omega, fun h => by have := po h; omega⟩
    rw [rg_set hkl]
    split
    · exact put_nodup (hR.nd k) (hR.r k)
    · exact hR.nd b
theorem edF_ok {G : Sg} {d0 : Int} {R0 : List (List Hp)} {m k : Nat} (he : EdOk' G m k) (h0 : Ri G d0 R0) : ∀ (L : List Hp) (R : List (List Hp)) (mo : Bool), (∀ h ∈ L, h ∈ rg R0 m) → Ri G d0 R → Mo R0 R → (m ≠ k → rg R m = rg R0 m) →
    Ri G d0 (edF (G.st m) k L (R, mo)).1 ∧ Mo R (edF (G.st m) k L (R, mo)).1 ∧ osum (edF (G.st m) k L (R, mo)).1 ≤ osum R ∧ ((edF (G.st m) k L (R, mo)).2 = true → mo = true ∨ osum (edF (G.st m) k L (R, mo)).1 < osum R)
  | [], R, mo, _, hR, _, _ => ⟨hR, Mo.refl (G := G) (d0 := d0), Nat.le_refl _, fun h => .inl h⟩
  | h :: L, R, mo, hL, hR, hm, hs => by
    unfold edF
    by_cases ho : thOk h (G.st m) = true
    · rw [if_pos ho]
      obtain ⟨a1, a2, a3, a4⟩ := one_ok hR he hm hs h0 (hL h List.mem_cons_self) ho
      have hkl : k < R.length := by rw [hR.ok.len]; exact he.hk
      obtain ⟨b1, b2, b3, b4⟩ := edF_ok he h0 L _ (mo || (putS (rg R k) (thR h (G.st m))).2) (fun x hx => hL x (List.mem_cons_of_mem _ hx)) a1 (hm.trans a2) (fun e => by rw [rg_set hkl, if_neg e]; exact hs e)
      dsimp only at b1 b2 b3 b4 ⊢
      refine ⟨b1, a2.trans b2, Nat.le_trans b3 a3, fun h => ?_⟩
      rcases b4 h with h | h
      · rw [Bool.or_eq_true] at h
        rcases h with h | h
        · exact .inl h
        · have := a4 h
          exact .inr (by omega)
      · exact .inr (by omega)
    · rw [if_neg ho]
      exact edF_ok he h0 L R mo (fun x hx => hL x (List.mem_cons_of_mem _ hx)) hR hm hs
theorem swF_ok {G : Sg} {d0 : Int} : ∀ (es : List (Nat × Nat)) (R : List (List Hp)) (mo : Bool), (∀ e ∈ es, EdOk' G e.1 e.2) → Ri G d0 R →
    Ri G d0 (swF G.st es (R, mo)).1 ∧ Mo R (swF G.st es (R, mo)).1 ∧ osum (swF G.st es (R, mo)).1 ≤ osum R ∧ ((swF G.st es (R, mo)).2 = true → mo = true ∨ osum (swF G.st es (R, mo)).1 < osum R)
  | [], R, mo, _, hR => ⟨hR, Mo.refl (G := G) (d0 := d0), Nat.le_refl _, fun h => .inl h⟩
  | e :: es, R, mo, hes, hR => by
    unfold swF
    obtain ⟨a1, a2, a3, a4⟩ := edF_ok (hes e List.mem_cons_self) hR (rg R e.1) R mo (fun _ h => h) hR (Mo.refl (G := G) (d0 := d0)) (fun _ => rfl)
    dsimp only
    obtain ⟨A, hA⟩ : ∃ A, edF (G.st e.1) e.2 (rg R e.1) (R, mo) = A := ⟨_, rfl⟩
    rw [hA] at a1 a2 a3 a4 ⊢
    obtain ⟨R1, mo1⟩ := A
    obtain ⟨b1, b2, b3, b4⟩ := swF_ok es R1 mo1 (fun e he => hes e (List.mem_cons_of_mem _ he)) a1
    refine ⟨b1, a2.trans b2, Nat.le_trans b3 a3, fun h => ?_⟩
    dsimp only at a3 a4
    rcases b4 h with h | h
    · rcases a4 h with h | h
      · exact .inl h
      · exact .inr (by omega)
    · exact .inr (by omega)
/-- How a row begins. -/
def beg0 (G : Sg) (fr : Nat) (x : Hp) : List (List Hp) := (List.replicate G.N []).set fr [x]
theorem beg_ok {G : Sg} {fr : Nat} {x : Hp} (hf : fr < G.N) (hx : hopB x = true) (hg : x.k + x.l = G.dep fr) (hk : 1 ≤ x.k) (h0 : atV x 0 = 0) (h1 : ∀ p : Int, p = 1 ∨ p = 2 → p + 1 ≤ G.dep fr → atV x p = 0) : Ri G x.f (beg0 G fr x) := by
  have hl : fr < (List.replicate G.N ([] : List Hp)).length := by rw [List.length_replicate]; exact hf
  have hr : ∀ m, rg (beg0 G fr x) m = if m = fr then [x] else [] := fun m => by
    unfold beg0
    rw [rg_set hl]
    split
    · rfl
    · unfold rg
      rw [List.getElem?_replicate]
      split <;> rfl
  refine ⟨⟨by unfold beg0; rw [List.length_set, List.length_replicate], fun m y hy => ?_, fun m => ?_⟩, fun m => ?_⟩
  · rw [hr] at hy
    split at hy
    · next e =>
      subst e
      obtain rfl := List.mem_singleton.1 hy
      exact ⟨hx, rfl, hg, hk, h0, fun p hp hd => ⟨[], List.nodup_nil, nofun, by rw [h1 p hp hd]; exact Int.le_refl _, nofun⟩⟩
    · cases hy
  · rw [hr]
    split
    · intro a ha b hb _
      rw [List.mem_singleton.1 ha, List.mem_singleton.1 hb]
    · intro a ha
      cases ha
  · rw [hr]
    split
    · simp
    · exact List.nodup_nil
open Va

theorem orE_zero {r s : Int × Int} (h : (orE r s).1 = 0) : r.1 = 0 ∧ s.1 = 0 := by
  unfold orE at h
  by_cases e : (r.1 != 0) = true
  · rw [if_pos e] at h
    rw [h] at e
    exact absurd e (by decide)
  · rw [if_neg e] at h
    exact ⟨by simpa using e, h⟩
/-- What Check has looked at. -/
structure Chkd (g : Gr) : Prop where
  p1 : 1 ≤ g.p.length
  p8 : g.p.length ≤ 8
  b8 : g.b.length ≤ 8
  n1 : 1 ≤ g.n.length
  n32 : g.n.length ≤ 32
  e64 : g.e.length ≤ 64
  sc : ∀ j : Int, 0 ≤ j → j < g.p.length → scoB g j = true
  nd : ∀ j : Int, 0 ≤ j → j < g.n.length → nodI g j (ndAt g j) = 0
  ed : ∀ j : Int, 0 ≤ j → j < g.e.length → edS g j = 0
theorem chk_ok {g : Gr} (h : (chkS g).1 = 0) : Chkd g := by
  unfold chkS at h
  split at h
  · exact absurd h (by decide)
  next h1 =>
  unfold chk1 at h
  obtain ⟨a1, h⟩ := orE_zero h
  split at h
  · exact absurd h (by decide)
  next h2 =>
  unfold chk2 at h
  obtain ⟨a2, h⟩ := orE_zero h
  unfold chk3 at h
  obtain ⟨a3, h⟩ := orE_zero h
  simp only [Bool.or_eq_true, decide_eq_true_eq, not_or, bne_iff_ne, ne_eq, Classical.not_not] at h1 h2
  refine ⟨by omega, by omega, by omega, by omega, by omega, by omega, fun j j0 j1 => ?_, fun j j0 j1 => ?_, fun j j0 j1 => ?_⟩
  · have := fstF_ok a1 j j0 (by omega)
    unfold f1 at this
    split at this
    · assumption
    · cases this
  · exact fstF_ok a2 j j0 (by omega)
  · exact fstF_ok a3 j j0 (by omega)
theorem Chkd.par {g : Gr} (h : Chkd g) : Par g.p := sco_par fun j j0 j1 => by unfold f1; rw [if_pos (h.sc j j0 j1)]
/-- Depths, with enough of them. -/
theorem dpF_any {P : List Int} (hP : Par P) : ∀ (n : Nat) (s : Int) (f f' : Nat) (d d' : Int), s < n → n ≤ f → n ≤ f' → d + n ≤ 9 → d' + n ≤ 9 → dpF P f s d - d = dpF P f' s d' - d'
  | 0, s, f, f', d, d', hs, _, _, _, _ => by
    have hno : ∀ (f : Nat) (d : Int), dpF P f s d = d := fun f d => by
      cases f with
      | zero => rfl
      | succ f =>
        unfold dpF
        rw [if_neg]
        unfold insB
        rw [decide_eq_false (show ¬ 0 ≤ s by omega)]
        simp
    rw [hno, hno]
    omega
  | n + 1, s, f + 1, f' + 1, d, d', hs, h1, h2, h3, h4 => by
    unfold dpF
    by_cases hi : insB s P.length = true
    · have hi' := insB_iff.1 hi
      have hp := hP s hi'.1 hi'.2
      rw [hi, decide_eq_true (show d ≤ 8 by omega), decide_eq_true (show d' ≤ 8 by omega)]
      show dpF P f (getI P s) (d + 1) - d = dpF P f' (getI P s) (d' + 1) - d'
      have := dpF_any hP n (getI P s) f f' (d + 1) (d' + 1) (by omega) (by omega) (by omega) (by omega) (by omega)
      omega
    · have hi : insB s P.length = false := by simpa using hi
      rw [hi]
      simp
  | n + 1, s, 0, f', d, d', hs, h1, _, _, _ => by omega
  | n + 1, s, f + 1, 0, d, d', hs, _, h2, _, _ => by omega
theorem dp_next {P : List Int} (hP : Par P) (hl : P.length ≤ 8) {s : Int} (h0 : 0 ≤ s) (h1 : s < P.length) : dpS P s = dpS P (getI P s) + 1 := by
  have hp := hP s h0 h1
  have hi : insB s P.length = true := insB_iff.2 ⟨h0, h1⟩
  have e : dpS P s = dpF P 8 (getI P s) 1 := by
    unfold dpS
    rw [dpF, hi]
    rfl
  rw [e]
  have := dpF_any hP s.toNat (getI P s) 8 9 1 0 (by omega) (by omega) (by omega) (by omega) (by omega)
  unfold dpS
  omega
theorem dp_neg {P : List Int} {s : Int} (h : s < 0) : dpS P s = 0 := by
  unfold dpS dpF insB
  rw [decide_eq_false (show ¬ 0 ≤ s by omega)]
  simp
theorem dpF_ge {P : List Int} : ∀ (f : Nat) (s d : Int), d ≤ dpF P f s d
  | 0, _, _ => Int.le_refl _
  | f + 1, s, d => by
    unfold dpF
    split
    · have := dpF_ge (P := P) f (getI P s) (d + 1)
      omega
    · exact Int.le_refl _
theorem dp_ge {P : List Int} (s : Int) : 0 ≤ dpS P s := dpF_ge 9 s 0
/-- The step of an operator. -/
def stN (d k : Int) : Hp := if (k == 10) = true then ⟨d, d, 1, 0, 0, 0, 0, 0, 0, 0, 0⟩ else if (k == 11) = true then ⟨d, d - 1, 0, 0, 0, 0, 0, 0, 0, 0, 0⟩ else if (k == 12) = true then nextH d else ⟨d, d, 0, 0, 0, 0, 0, 0, 0, 0, 0⟩
def depN (g : Gr) (m : Int) : Int := dpS g.p (takI g (ndAt g m))
def sgOf (g : Gr) : Sg := ⟨g.n.length, fun m => depN g m, fun m => stN (depN g m) (ndAt g m).k, g.e.map fun e => (e.f.toNat, e.t.toNat)⟩
theorem Chkd.scp {g : Gr} (h : Chkd g) {s : Int} (h0 : 0 ≤ s) (h1 : s < g.p.length) : 1 ≤ dpS g.p s ∧ dpS g.p s ≤ 4 ∧ (s ≠ 0 → 2 ≤ dpS g.p s ∧ 0 ≤ getI g.p s ∧ getI g.p s < g.p.length) := by
  have hs := h.sc s h0 h1
  have hn := dp_next h.par h.p8 h0 h1
  have hp := h.par s h0 h1
  unfold scoB at hs
  split at hs
  · next e =>
    have e : s = 0 := by simpa using e
    rw [Bool.and_eq_true] at hs
    have e1 : getI g.p 0 = -1 := by simpa using hs.1
    rw [e, e1, dp_neg (s := -1) (by decide)] at hn
    rw [e, hn]
    exact ⟨by decide, by decide, fun h => absurd rfl h⟩
  · simp only [Bool.and_eq_true, decide_eq_true_eq] at hs
    have hi := insB_iff.1 hs.1.1.1
    have hq := dp_next h.par h.p8 hi.1 (by omega)
    have := dp_ge (P := g.p) (getI g.p (getI g.p s))
    exact ⟨by omega, by omega, fun _ => ⟨by omega, hi.1, by omega⟩⟩
theorem edge_parts {g : Gr} {n : Int} {e : Eg} {x y : Nd} (h : edgI g n e x y = 0) : givI g x = takI g y ∧ (e.t ≤ e.f → x.k = 12) := by
  unfold edgI at h
  split at h
  · cases h
  split at h
  · cases h
  split at h
  · cases h
  next h3 =>
  split at h
  · cases h
  next h4 =>
  refine ⟨by simpa using h3, fun ht => ?_⟩
  apply Classical.byContradiction
  intro hk
  refine h4 ?_
  rw [decide_eq_true ht]
  simp [hk]
/-- How deep an operator stands. -/
theorem Chkd.dep {g : Gr} (h : Chkd g) {m : Int} (m0 : 0 ≤ m) (m1 : m < g.n.length) : (1 ≤ depN g m ∧ depN g m ≤ 4) ∧ ((ndAt g m).k = 10 → depN g m ≤ 3 ∧ 0 ≤ (ndAt g m).s ∧ (ndAt g m).s < g.p.length) ∧ ((ndAt g m).k = 11 ∨ (ndAt g m).k = 12 → 2 ≤ depN g m) := by
  unfold depN
  obtain ⟨x, hx⟩ : ∃ x, ndAt g m = x := ⟨_, rfl⟩
  have hnx := nodI_ok (h.nd m m0 m1)
  rw [hx] at hnx ⊢
  obtain ⟨s0, s1, s2⟩ := hnx
  obtain ⟨p1, p4, p2⟩ := h.scp s0 s1
  have hnext := dp_next h.par h.p8 s0 s1
  by_cases k10 : x.k = 10
  · obtain ⟨q2, q0, q1⟩ := p2 (s2 (.inl k10))
    obtain ⟨pp1, pp4, -⟩ := h.scp q0 q1
    have ht : takI g x = getI g.p x.s := by unfold takI; rw [k10]; rfl
    rw [ht]
    exact ⟨⟨pp1, pp4⟩, fun _ => ⟨by omega, s0, s1⟩, fun hk => by omega⟩
  · have ht : takI g x = x.s := by unfold takI; rw [if_neg (by simpa using k10)]
    rw [ht]
    exact ⟨⟨p1, p4⟩, fun hk => absurd hk k10, fun hk => by
      rcases hk with hk | hk
      · exact (p2 (s2 (.inr (.inl hk)))).1
      · exact (p2 (s2 (.inr (.inr hk)))).1⟩
/-- The edges of a graph that may run are right. -/
theorem sg_ok {g : Gr} (h : Chkd g) : SgOk (sgOf g) := by
  intro e' he'
  obtain ⟨e, he, rfl⟩ := List.mem_map.1 he'
  obtain ⟨i, hi⟩ := List.getElem?_of_mem he
  obtain ⟨i1, -⟩ := List.getElem?_eq_some_iff.1 hi
  have hes := h.ed i (by omega) (by omega)
  have hat : egAt g i = e := by unfold egAt; rw [show ((i : Int)).toNat = i by omega, hi]; rfl
  obtain ⟨⟨f0, f1⟩, t0, t1⟩ := edS_ok hes
  unfold edS at hes
  rw [hat] at hes f0 f1 t0 t1
  obtain ⟨hgt, hbk⟩ := edge_parts hes
  have ef : ((e.f.toNat : Nat) : Int) = e.f := by omega
  have et : ((e.t.toNat : Nat) : Int) = e.t := by omega
  obtain ⟨x, hx⟩ : ∃ x, ndAt g e.f = x := ⟨_, rfl⟩
  obtain ⟨y, hy⟩ : ∃ y, ndAt g e.t = y := ⟨_, rfl⟩
  rw [hx] at hgt hbk
  rw [hy] at hgt
  have hnx := nodI_ok (h.nd e.f f0 f1)
  rw [hx] at hnx
  obtain ⟨s0, s1, s2⟩ := hnx
  obtain ⟨p1, p4, p2⟩ := h.scp s0 s1
  have hnext := dp_next h.par h.p8 s0 s1
  have hdm : (sgOf g).dep e.f.toNat = dpS g.p (takI g x) := by show depN g ((e.f.toNat : Nat) : Int) = _; unfold depN; rw [ef, hx]
  have hdk : (sgOf g).dep e.t.toNat = dpS g.p (givI g x) := by show depN g ((e.t.toNat : Nat) : Int) = _; unfold depN; rw [et, hy, hgt]
  have hst : (sgOf g).st e.f.toNat = stN (dpS g.p (takI g x)) x.k := by show stN (depN g ((e.f.toNat : Nat) : Int)) (ndAt g ((e.f.toNat : Nat) : Int)).k = _; unfold depN; rw [ef, hx]
  have hself : e.f.toNat = e.t.toNat → x.k = 12 := fun h => hbk (by omega)
  have key : ∀ (d dk : Int) (st : Hp), (hopB st = true ∧ st.f = d ∧ st.k + st.l = dk ∧ 1 ≤ st.k ∧ atV st 0 = 0) → (∀ p : Int, p = 1 ∨ p = 2 → p + 1 ≤ dk → (p + 1 ≤ d ∧ p < st.k ∧ atV st p = 0) ∨ (d = p + 1 ∧ dk = p + 1 ∧ p < st.k ∧ atV st p = 1) ∨ (d = p ∧ atV st p = 0)) → (e.f.toNat = e.t.toNat → st.l = 0) → (sgOf g).dep e.f.toNat = d → (sgOf g).dep e.t.toNat = dk → (sgOf g).st e.f.toNat = st → EdOk' (sgOf g) e.f.toNat e.t.toNat := fun d dk st ⟨a1, a2, a3, a4, a5⟩ a6 a7 a8 a9 a10 => by
    subst a8 a9 a10
    exact ⟨by show e.f.toNat < g.n.length; omega, by show e.t.toNat < g.n.length; omega, a1, a2, a3, a4, a5, a6, a7⟩
  by_cases k10 : x.k = 10
  · obtain ⟨q2, q0, q1⟩ := p2 (s2 (.inl k10))
    obtain ⟨pp1, pp4, -⟩ := h.scp q0 q1
    have ht : takI g x = getI g.p x.s := by unfold takI; rw [k10]; rfl
    have hg : givI g x = x.s := by unfold givI; rw [k10]; rfl
    rw [ht] at hdm hst
    rw [hg, hnext] at hdk
    have hs : stN (dpS g.p (getI g.p x.s)) x.k = ⟨dpS g.p (getI g.p x.s), dpS g.p (getI g.p x.s), 1, 0, 0, 0, 0, 0, 0, 0, 0⟩ := by unfold stN; rw [k10]; rfl
    rw [hs] at hst
    generalize dpS g.p (getI g.p x.s) = d at *
    have : d = 1 ∨ d = 2 ∨ d = 3 := by omega
    refine key d (d + 1) _ ?_ ?_ (fun h => absurd (hself h) (by omega)) hdm hdk hst
    · rcases this with rfl | rfl | rfl <;> decide
    · rcases this with rfl | rfl | rfl <;> (intro p hp hd; rcases hp with rfl | rfl <;> first | exact absurd hd (by decide) | exact .inl (by decide) | exact .inr (.inl (by decide)) | exact .inr (.inr (by decide)))
  by_cases k11 : x.k = 11
  · obtain ⟨q2, q0, q1⟩ := p2 (s2 (.inr (.inl k11)))
    have ht : takI g x = x.s := by unfold takI; rw [k11]; rfl
    have hg : givI g x = getI g.p x.s := by unfold givI; rw [k11]; rfl
    rw [ht] at hdm hst
    have hdk : (sgOf g).dep e.t.toNat = dpS g.p x.s - 1 := by rw [hdk, hg]; omega
    have hs : stN (dpS g.p x.s) x.k = ⟨dpS g.p x.s, dpS g.p x.s - 1, 0, 0, 0, 0, 0, 0, 0, 0, 0⟩ := by unfold stN; rw [k11]; rfl
    rw [hs] at hst
    generalize dpS g.p x.s = d at *
    have : d = 2 ∨ d = 3 ∨ d = 4 := by omega
    refine key d (d - 1) _ ?_ ?_ (fun _ => rfl) hdm hdk hst
    · rcases this with rfl | rfl | rfl <;> decide
    · rcases this with rfl | rfl | rfl <;> (intro p hp hd; rcases hp with rfl | rfl <;> first | exact absurd hd (by decide) | exact .inl (by decide) | exact .inr (.inl (by decide)) | exact .inr (.inr (by decide)))
  have ht : takI g x = x.s := by unfold takI; rw [if_neg (by simpa using k10)]
  have hg : givI g x = x.s := by unfold givI; rw [if_neg (by simpa using k11)]
  rw [ht] at hdm hst
  rw [hg] at hdk
  by_cases k12 : x.k = 12
  · obtain ⟨q2, q0, q1⟩ := p2 (s2 (.inr (.inr k12)))
    have hs : stN (dpS g.p x.s) x.k = nextH (dpS g.p x.s) := by unfold stN; rw [k12]; rfl
    rw [hs] at hst
    generalize dpS g.p x.s = d at *
    have : d = 2 ∨ d = 3 ∨ d = 4 := by omega
    refine key d d _ ?_ ?_ (fun _ => rfl) hdm hdk hst
    · rcases this with rfl | rfl | rfl <;> decide
    · rcases this with rfl | rfl | rfl <;> (intro p hp hd; rcases hp with rfl | rfl <;> first | exact absurd hd (by decide) | exact .inl (by decide) | exact .inr (.inl (by decide)) | exact .inr (.inr (by decide)))
  · have hs : stN (dpS g.p x.s) x.k = ⟨dpS g.p x.s, dpS g.p x.s, 0, 0, 0, 0, 0, 0, 0, 0, 0⟩ := by unfold stN; rw [if_neg (by simpa using k10), if_neg (by simpa using k11), if_neg (by simpa using k12)]
    rw [hs] at hst
    generalize dpS g.p x.s = d at *
    have : d = 1 ∨ d = 2 ∨ d = 3 ∨ d = 4 := by omega
    refine key d d _ ?_ ?_ (fun _ => rfl) hdm hdk hst
    · rcases this with rfl | rfl | rfl | rfl <;> decide
    · rcases this with rfl | rfl | rfl | rfl <;> (intro p hp hd; rcases hp with rfl | rfl <;> first | exact absurd hd (by decide) | exact .inl (by decide) | exact .inr (.inl (by decide)) | exact .inr (.inr (by decide)))
end Go.Proofs.Ytkmgdejpdhlleaa.Pa
