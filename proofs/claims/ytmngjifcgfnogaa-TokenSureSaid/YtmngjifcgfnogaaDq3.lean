/- Deep values: operations that make values. No program in sight. -/
import Derived.Test.YtmngjifcgfnogaaDq2
namespace Go.Proofs.Ytmngjifcgfnogaa.Dq
set_option linter.unusedSimpArgs false
set_option linter.unusedVariables false
set_option maxRecDepth 100000
open Go.RowKit

theorem addr_add' (b o j : Nat) : (⟨b, o, none⟩ : Addr).add j = ⟨b, o + j, none⟩ := by unfold Addr.add; split <;> simp_all
/-- Plain cells are what they say. -/
def plainV : List D → Option (List Value)
  | [] => some []
  | .int k n :: l => (plainV l).map (Value.int k n :: ·)
  | .bool b :: l => (plainV l).map (Value.bool b :: ·)
  | _ :: _ => none
theorem flatX {G : Gh} {w : World} : ∀ {l : List D} {us vs : List Value}, DenXL G w l us → plainV l = some vs → us = vs
  | [], us, vs, h, hv => by
    obtain rfl : [] = vs := Option.some.inj hv
    exact List.eq_nil_of_length_eq_zero h.1.symm
  | d :: l, us, vs, h, hv => by
    obtain ⟨u, us', rfl, h1, h2⟩ := AL.cons_inv h
    cases d with
    | int k n =>
      unfold plainV at hv
      obtain ⟨ws, hw, rfl⟩ := Option.map_eq_some_iff.1 hv
      rw [flatX h2 hw, D1_int (G := G) (W := w) h1]
    | bool b =>
      unfold plainV at hv
      obtain ⟨ws, hw, rfl⟩ := Option.map_eq_some_iff.1 hv
      rw [flatX h2 hw, D1_bool (G := G) (W := w) h1]
    | _ => cases hv
def gh (A : Pr) : Gh := ⟨A, fun _ => none, fun _ => False, fun _ => none⟩
theorem flatL {A : Pr} {w : World} {l : List D} {us vs : List Value} (h : DenL A w l us) (hv : plainV l = some vs) : us = vs := flatX (G := gh A) (DenXL.of h) hv
theorem flatU {A : Pr} {w : World} {l : List D} {us : Array Value} {vs : List Value} (h : DenL A w l us.toList) (hv : plainV l = some vs := by rfl) : us = vs.toArray := by
  apply Array.toList_inj.1
  rw [flatL h hv]
theorem flatXU {G : Gh} {w : World} {l : List D} {us : Array Value} {vs : List Value} (h : DenXL G w l us.toList) (hv : plainV l = some vs := by rfl) : us = vs.toArray := by
  apply Array.toList_inj.1
  rw [flatX h hv]
def bad : Ev := { x := none, ob := False }
section
variable {P : Program} {M : Nat → Prop} {A0 : Pr} {w0 : World} {G : Gh} {a : Act} {W : World} {o : Oper}
variable {s : List (Nat × SV)} {g : Bool} (hg : g = true) (hG : GOK M A0 G W) (hx : Chg M w0 W)
include hg hG hx
omit hg hG hx in
theorem run_gd {op : BinOp} {t : TypeId} {x y : Operand} {u v : Value} (h : (∀ z, u ≠ .agg z) ∧ u ≠ .nilIface) : (eqGuard op t x y u v).run P W = .ok () W := by
  cases op <;> cases u <;> first | rfl | (exact absurd rfl (h.1 _)) | (exact absurd rfl h.2) | simp [eqGuard]
omit hg hG hx in
theorem run_eqb {t : TypeId} (h : P.underlying t = some .bool) (u v : Bool) (w : World) : (Op.equal t (.bool u) (.bool v)).run P w = .ok (u == v) w := by
  show (Op.equalIn (9999 + 1) t (.bool u) (.bool v)).run P w = _
  rw [Op.equalIn]
  simp only [Sem.run_bind, run_underlying h, Result.andThen_ok, Sem.run_pure]
/-- Is a pointer nil? -/
def nilP : S1 → Option Bool
  | .box _ _ => some false
  | .xp _ _ _ _ => some false
  | .ptr _ => some false
  | .k (.pointer none) => some true
  | _ => none
def isPt (P : Program) (t : TypeId) : Bool := match P.underlying t with
  | some (.pointer _) => true
  | _ => false
omit hg hG hx in
theorem nilP_ok {x : S1} {v : Value} {b : Bool} (h : D1 G W x v) (hb : nilP x = some b) : ∃ a, v = .pointer a ∧ a.isNone = b := by
  cases x with
  | box k off => obtain ⟨c, -, rfl⟩ := h; exact ⟨_, rfl, Option.some.inj hb⟩
  | xp k K i j => obtain ⟨c, -, -, -, rfl⟩ := h; exact ⟨_, rfl, Option.some.inj hb⟩
  | ptr cs => obtain ⟨c, o, rfl, -⟩ := h; exact ⟨_, rfl, Option.some.inj hb⟩
  | k u =>
    have h : v = u := h
    subst h
    cases v with
    | pointer a =>
      cases a with
      | none => exact ⟨_, rfl, Option.some.inj hb⟩
      | some a => cases hb
    | _ => cases hb
  | _ => cases hb
omit hg hG hx in
theorem run_eqp {t : TypeId} (h : isPt P t = true) (a : Option Addr) (w : World) : (Op.equal t (.pointer a) (.pointer none)).run P w = .ok a.isNone w := by
  unfold isPt at h
  split at h
  · next e hu =>
    show (Op.equalIn (9999 + 1) t (.pointer a) (.pointer none)).run P w = _
    rw [Op.equalIn]
    simp only [Sem.run_bind, run_underlying hu, Result.andThen_ok]
    cases a <;> rfl
  · cases h
omit hg hG hx in
theorem run_eqs {t : TypeId} (h : (isSl P t).isSome = true) (a : Option Addr) (n c : Nat) (w : World) : (Op.equal t (.slice a n c) (.slice none 0 0)).run P w = .ok a.isNone w := by
  obtain ⟨e, he⟩ := Option.isSome_iff_exists.1 h
  unfold isSl at he
  split at he
  · next e' hu =>
    show (Op.equalIn (9999 + 1) t (.slice a n c) (.slice none 0 0)).run P w = _
    rw [Op.equalIn]
    simp only [Sem.run_bind, run_underlying hu, Result.andThen_ok]
    cases a <;> rfl
  · cases he
def evBin (P : Program) (s : List (Nat × SV)) (g : Bool) (op : BinOp) (t : TypeId) (x y : Operand) : Ev :=
  match opd s g x, opd s g y with
  | (.c (.int k m), p), (.c (.int k' n), q) => match op with
    | .add => { x := some (.one (.c (.int k (k.wrap (m + n))))), ob := p ∧ q ∧ k = k' }
    | .sub => { x := some (.one (.c (.int k (k.wrap (m - n))))), ob := p ∧ q ∧ k = k' }
    | .mul => { x := some (.one (.c (.int k (k.wrap (m * n))))), ob := p ∧ q ∧ k = k' }
    | .quo => { x := some (.one (.c (.int k (k.wrap (m.tdiv n))))), ob := p ∧ q ∧ k = k' ∧ n ≠ 0 }
    | .rem => { x := some (.one (.c (.int k (m.tmod n)))), ob := p ∧ q ∧ k = k' ∧ n ≠ 0 }
    | .eql => { x := some (.one (.c (.bool (m == n)))), ob := p ∧ q ∧ k = k' }
    | .neq => { x := some (.one (.c (.bool (m != n)))), ob := p ∧ q ∧ k = k' }
    | .lss => { x := some (.one (.c (.bool (decide (m < n))))), ob := p ∧ q ∧ k = k' }
    | .leq => { x := some (.one (.c (.bool (decide (m ≤ n))))), ob := p ∧ q ∧ k = k' }
    | .gtr => { x := some (.one (.c (.bool (decide (n < m))))), ob := p ∧ q ∧ k = k' }
    | .geq => { x := some (.one (.c (.bool (decide (n ≤ m))))), ob := p ∧ q ∧ k = k' }
    | _ => bad
  | (.c (.bool u), p), (.c (.bool v), q) => match op with
    | .eql => { x := some (.one (.c (.bool (u == v)))), ob := p ∧ q ∧ isB P t = true }
    | .neq => { x := some (.one (.c (.bool (u != v)))), ob := p ∧ q ∧ isB P t = true }
    | _ => bad
  | (.agg l, p), (.agg l', q) => match op with
    | .eql => { x := some (.one (.c (.bool (eqF l l')))), ob := p ∧ q ∧ EqOk P t l l' }
    | .neq => { x := some (.one (.c (.bool (!eqF l l')))), ob := p ∧ q ∧ EqOk P t l l' }
    | _ => bad
  | (x, p), (.k (.pointer none), q) => match nilP x with
    | some b => match op with
      | .eql => { x := some (.one (.c (.bool b))), ob := p ∧ q ∧ isPt P t = true }
      | .neq => { x := some (.one (.c (.bool (!b)))), ob := p ∧ q ∧ isPt P t = true }
      | _ => bad
    | none => bad
  | (.sn b l, p), (.nil, q) => match op with
    | .eql => { x := some (.one (.c (.bool b))), ob := p ∧ q ∧ (isSl P t).isSome = true }
    | .neq => { x := some (.one (.c (.bool (!b)))), ob := p ∧ q ∧ (isSl P t).isSome = true }
    | _ => bad
  | _, _ => bad
theorem ok_bin {op : BinOp} {t t' : TypeId} {x y : Operand} (ho : o.op = .binOp op t x y t') (h1 : Okd G W s a x) (h2 : Okd G W s a y) (hob : (evBin P s g op t x y).ob) : Does P M A0 w0 G a W o (evBin P s g op t x y) := by
  have d1 := opd_ok hg h1
  have d2 := opd_ok hg h2
  unfold evBin at hob ⊢
  split at hob
  · next k m p k' n q e1 e2 =>
    rw [e1] at d1
    rw [e2] at d2
    have key : ∀ v : Value, p ∧ q ∧ (k = k' → (binOp op t (.int k m) (.int k' n)).run P W = .ok v W) ∧ k = k' → (execOp a.eval o).run P W = .ok (.value v) W := fun v ⟨hp, hq, hr, hk⟩ => by
      have f1 := D1_int (d1 hp)
      have f2 := D1_int (d2 hq)
      have hgd := run_gd (P := P) (W := W) (op := op) (t := t) (x := x) (y := y) (u := .int k m) (v := .int k' n) ⟨nofun, nofun⟩
      simp [execOp, ho, f1, f2, hgd, hr hk]
    cases op <;> dsimp only at hob ⊢
    case add => exact does_pure hG hx (key _ ⟨hob.1, hob.2.1, fun hk => by subst hk; simp [binOp, Op.intArith], hob.2.2⟩) (Den.int _ _)
    case sub => exact does_pure hG hx (key _ ⟨hob.1, hob.2.1, fun hk => by subst hk; simp [binOp, Op.intArith], hob.2.2⟩) (Den.int _ _)
    case mul => exact does_pure hG hx (key _ ⟨hob.1, hob.2.1, fun hk => by subst hk; simp [binOp, Op.intArith], hob.2.2⟩) (Den.int _ _)
    case quo => exact does_pure hG hx (key _ ⟨hob.1, hob.2.1, fun hk => by subst hk; simp [binOp, Op.intDiv, hob.2.2.2], hob.2.2.1⟩) (Den.int _ _)
    case rem => exact does_pure hG hx (key _ ⟨hob.1, hob.2.1, fun hk => by subst hk; simp [binOp, Op.intDiv, hob.2.2.2], hob.2.2.1⟩) (Den.int _ _)
    case eql => exact does_pure hG hx (key _ ⟨hob.1, hob.2.1, fun hk => by subst hk; simp [binOp, Op.intCmp] <;> rfl, hob.2.2⟩) (Den.bool _)
    case neq => exact does_pure hG hx (key _ ⟨hob.1, hob.2.1, fun hk => by subst hk; simp [binOp, Op.intCmp] <;> rfl, hob.2.2⟩) (Den.bool _)
    case lss => exact does_pure hG hx (key _ ⟨hob.1, hob.2.1, fun hk => by subst hk; simp [binOp, Op.intCmp] <;> rfl, hob.2.2⟩) (Den.bool _)
    case leq => exact does_pure hG hx (key _ ⟨hob.1, hob.2.1, fun hk => by subst hk; simp [binOp, Op.intCmp] <;> rfl, hob.2.2⟩) (Den.bool _)
    case gtr => exact does_pure hG hx (key _ ⟨hob.1, hob.2.1, fun hk => by subst hk; simp [binOp, Op.intCmp] <;> rfl, hob.2.2⟩) (Den.bool _)
    case geq => exact does_pure hG hx (key _ ⟨hob.1, hob.2.1, fun hk => by subst hk; simp [binOp, Op.intCmp] <;> rfl, hob.2.2⟩) (Den.bool _)
    all_goals exact hob.elim
  · next u p v q e1 e2 =>
    rw [e1] at d1
    rw [e2] at d2
    have key : ∀ z : Value, p ∧ q ∧ (P.underlying t = some .bool → (binOp op t (.bool u) (.bool v)).run P W = .ok z W) ∧ isB P t = true → (execOp a.eval o).run P W = .ok (.value z) W := fun z ⟨hp, hq, hr, hk⟩ => by
      have f1 := D1_bool (d1 hp)
      have f2 := D1_bool (d2 hq)
      have hgd := run_gd (P := P) (W := W) (op := op) (t := t) (x := x) (y := y) (u := .bool u) (v := .bool v) ⟨nofun, nofun⟩
      have hu : P.underlying t = some .bool := by
        unfold isB at hk
        split at hk
        · assumption
        · cases hk
      simp [execOp, ho, f1, f2, hgd, hr hu]
    cases op <;> dsimp only at hob ⊢
    case eql => exact does_pure hG hx (key _ ⟨hob.1, hob.2.1, fun hk => by simp only [binOp, run_eqb hk, Sem.run_bind, Sem.run_pure, Result.andThen_ok] <;> rfl, hob.2.2⟩) (Den.bool _)
    case neq => exact does_pure hG hx (key _ ⟨hob.1, hob.2.1, fun hk => by simp only [binOp, run_eqb hk, Sem.run_bind, Sem.run_pure, Result.andThen_ok] <;> rfl, hob.2.2⟩) (Den.bool _)
    all_goals exact hob.elim
  · next l p l' q e1 e2 =>
    rw [e1] at d1
    rw [e2] at d2
    cases op <;> dsimp only at hob ⊢
    case eql =>
      obtain ⟨hp, hq, he⟩ := hob
      obtain ⟨us, f1, g1⟩ := d1 hp
      obtain ⟨vs, f2, g2⟩ := d2 hq
      obtain ⟨k1, -, k2⟩ := he _ W us vs x y g1 g2
      exact does_pure hG hx (v := .bool (eqF l l')) (by simp [execOp, ho, f1, f2, k1, k2, binOp]) (Den.bool _)
    case neq =>
      obtain ⟨hp, hq, he⟩ := hob
      obtain ⟨us, f1, g1⟩ := d1 hp
      obtain ⟨vs, f2, g2⟩ := d2 hq
      obtain ⟨-, k1, k2⟩ := he _ W us vs x y g1 g2
      exact does_pure hG hx (v := .bool (!eqF l l')) (by simp [execOp, ho, f1, f2, k1, k2, binOp]) (Den.bool _)
    all_goals exact hob.elim
  · next _ x' p q e1 e2 =>
    rw [e1] at d1
    rw [e2] at d2
    split at hob
    · next b hb =>
      have key : ∀ z : Value, p ∧ q ∧ (∀ u : Option Addr, u.isNone = b → isPt P t = true → (binOp op t (.pointer u) (.pointer none)).run P W = .ok z W) ∧ isPt P t = true → (execOp a.eval o).run P W = .ok (.value z) W := fun z ⟨hp, hq, hr, hk⟩ => by
        obtain ⟨u, f1, hu⟩ := nilP_ok (d1 hp) hb
        have f2 : a.eval y = .pointer none := d2 hq
        have hgd := run_gd (P := P) (W := W) (op := op) (t := t) (x := x) (y := y) (u := .pointer u) (v := .pointer none) ⟨nofun, nofun⟩
        simp [execOp, ho, f1, f2, hgd, hr u hu hk]
      cases op <;> dsimp only at hob ⊢
      case eql => exact does_pure hG hx (key _ ⟨hob.1, hob.2.1, fun u hu hk => by subst hu; simp only [binOp, run_eqp hk, Sem.run_bind, Sem.run_pure, Result.andThen_ok] <;> rfl, hob.2.2⟩) (Den.bool _)
      case neq => exact does_pure hG hx (key _ ⟨hob.1, hob.2.1, fun u hu hk => by subst hu; simp only [binOp, run_eqp hk, Sem.run_bind, Sem.run_pure, Result.andThen_ok] <;> rfl, hob.2.2⟩) (Den.bool _)
      all_goals exact hob.elim
    · exact hob.elim
  · next b l p q e1 e2 =>
    rw [e1] at d1
    rw [e2] at d2
    have key : ∀ z : Value, p ∧ q ∧ (∀ (u : Option Addr) n c, u.isNone = b → (isSl P t).isSome = true → (binOp op t (.slice u n c) (.slice none 0 0)).run P W = .ok z W) ∧ (isSl P t).isSome = true → (execOp a.eval o).run P W = .ok (.value z) W := fun z ⟨hp, hq, hr, hk⟩ => by
      obtain ⟨f1, hu⟩ := d1 hp
      have f2 : a.eval y = .slice none 0 0 := d2 hq
      obtain ⟨u, c, f3⟩ := den_len f1
      have hgd := run_gd (P := P) (W := W) (op := op) (t := t) (x := x) (y := y) (u := .slice u l.length c) (v := .slice none 0 0) ⟨nofun, nofun⟩
      have hub : u.isNone = b := by rw [← hu, f3]; cases u <;> rfl
      simp [execOp, ho, f3, f2, hgd, hr u _ _ hub hk]
    cases op <;> dsimp only at hob ⊢
    case eql => exact does_pure hG hx (key _ ⟨hob.1, hob.2.1, fun u n c hu hk => by subst hu; simp only [binOp, run_eqs hk, Sem.run_bind, Sem.run_pure, Result.andThen_ok] <;> rfl, hob.2.2⟩) (Den.bool _)
    case neq => exact does_pure hG hx (key _ ⟨hob.1, hob.2.1, fun u n c hu hk => by subst hu; simp only [binOp, run_eqs hk, Sem.run_bind, Sem.run_pure, Result.andThen_ok] <;> rfl, hob.2.2⟩) (Den.bool _)
    all_goals exact hob.elim
  · exact hob.elim
def evUn (s : List (Nat × SV)) (g : Bool) (op : UnOp) (x : Operand) : Ev := match opd s g x, op with
  | (.c (.bool b), p), .not => { x := some (.one (.c (.bool (!b)))), ob := p }
  | (.c (.int k n), p), .neg => { x := some (.one (.c (.int k (k.wrap (0 - n))))), ob := p }
  | _, _ => bad
theorem ok_un {op : UnOp} {t : TypeId} {x : Operand} (ho : o.op = .unOp op t x) (h1 : Okd G W s a x) (hob : (evUn s g op x).ob) : Does P M A0 w0 G a W o (evUn s g op x) := by
  have d1 := opd_ok hg h1
  unfold evUn at hob ⊢
  split at hob
  · next b p e1 =>
    rw [e1] at d1
    exact does_pure hG hx (v := .bool (!b)) (by simp [execOp, ho, D1_bool (d1 hob), Op.unary]) (Den.bool _)
  · next k n p e1 =>
    rw [e1] at d1
    exact does_pure hG hx (v := .int k (k.wrap (0 - n))) (by simp [execOp, ho, D1_int (d1 hob), Op.unary, Op.intArith]) (Den.int _ _)
  · exact hob.elim
def evConv (P : Program) (s : List (Nat × SV)) (g : Bool) (src dst : TypeId) (x : Operand) : Ev := match opd s g x, ik P dst with
  | (.c (.int _ n), p), some k => { x := some (.one (.c (.int k (k.wrap n)))), ob := p ∧ un P src = true }
  | _, _ => bad
theorem ok_conv {src dst : TypeId} {x : Operand} (ho : o.op = .convert src dst x) (h1 : Okd G W s a x) (hob : (evConv P s g src dst x).ob) : Does P M A0 w0 G a W o (evConv P s g src dst x) := by
  have d1 := opd_ok hg h1
  unfold evConv at hob ⊢
  split at hob
  · next k0 n p k e1 e2 =>
    rw [e1] at d1
    have hd : P.underlying dst = some (.int k) := by
      unfold ik at e2
      split at e2
      · next hu => rw [hu]; obtain rfl := Option.some.inj e2; rfl
      · cases e2
    have hs := hob.2
    unfold un at hs
    obtain ⟨ds, hs⟩ := Option.isSome_iff_exists.1 hs
    exact does_pure hG hx (v := .int k (k.wrap n)) (by simp [execOp, ho, D1_int (d1 hob.1), convert, run_underlying hs, run_underlying hd, Conv.intToInt]) (Den.int _ _)
  · exact hob.elim
omit hg hG hx in
theorem fo_spec {t : TypeId} {f off : Nat} {ft : TypeId} (h : fo P t f = some (off, ft)) : ∃ fs fd, P.underlying t = some (.struct fs) ∧ fs[f]? = some fd ∧ fd.offset = off ∧ fd.type = ft := by
  unfold fo at h
  split at h
  · next fs hu =>
    cases hf : fs[f]? with
    | none => rw [hf] at h; cases h
    | some fd =>
      rw [hf] at h
      have := Option.some.inj h
      exact ⟨fs, fd, hu, hf, (Prod.mk.inj this).1, (Prod.mk.inj this).2⟩
  · cases h
omit hg hG hx in
theorem run_fieldAt {t : TypeId} {f off : Nat} {ft : TypeId} (h : fo P t f = some (off, ft)) (hs : 0 < sz P ft) (b i : Nat) : (Instr.fieldAt t (.pointer (some ⟨b, i, none⟩)) f).run P W = .ok (.pointer (some ⟨b, i + off, none⟩)) W := by
  obtain ⟨fs, fd, h1, h2, rfl, rfl⟩ := fo_spec h
  have h3 : sz P fd.type ≠ 0 := by omega
  simp [Instr.fieldAt, run_underlying h1, h2, Instr.sureAddr, fieldPlace, run_sz hs, h3, addr_add']
def evFieldAddr (P : Program) (s : List (Nat × SV)) (g : Bool) (t : TypeId) (x : Operand) (f : Nat) : Ev := match opd s g x, fo P t f with
  | (.box k i, p), some (off, ft) => { x := some (.one (.box k (i + off))), ob := p ∧ 0 < sz P ft }
  | (.ptr cs, p), some (off, ft) => { x := some (.one (.ptr (cs.drop off))), ob := p ∧ 0 < sz P ft }
  | (.xp k K i j, p), some (off, ft) => { x := some (.one (.xp k K i (j + off))), ob := p ∧ 0 < sz P ft }
  | _, _ => bad
theorem ok_fieldAddr {t : TypeId} {x : Operand} {f : Nat} (ho : o.op = .fieldAddr t x f) (h1 : Okd G W s a x) (hob : (evFieldAddr P s g t x f).ob) : Does P M A0 w0 G a W o (evFieldAddr P s g t x f) := by
  have d1 := opd_ok hg h1
  unfold evFieldAddr at hob ⊢
  split at hob
  · next k i p off ft e1 e2 =>
    rw [e1] at d1
    obtain ⟨b, hb, he⟩ := d1 hob.1
    exact does_pure hG hx (v := .pointer (some ⟨b, i + off, none⟩)) (by simp [execOp, ho, he, run_fieldAt e2 hob.2]) ⟨b, hb, rfl⟩
  · next cs p off ft e1 e2 =>
    rw [e1] at d1
    obtain ⟨b, i, he, hb⟩ := d1 hob.1
    exact does_pure hG hx (v := .pointer (some ⟨b, i + off, none⟩)) (by simp [execOp, ho, he, run_fieldAt e2 hob.2]) ⟨b, _, rfl, hb.drop off⟩
  · next k K i j p off ft e1 e2 =>
    rw [e1] at d1
    obtain ⟨b, N, c, hb, he⟩ := d1 hob.1
    exact does_pure hG hx (v := .pointer (some ⟨b, i * K + j + off, none⟩)) (by simp [execOp, ho, he, run_fieldAt e2 hob.2]) ⟨b, N, c, hb, by rw [Nat.add_assoc]⟩
  · exact hob.elim
/-- A value out of cells. -/
def outS (a : Bool) (n : Nat) (cs : List D) : S1 × Prop := if a then (.agg (cs.take n), n ≤ cs.length) else match cs with
  | .nl :: _ => (.nil, True)
  | d :: _ => (.c d, True)
  | [] => (.k undef, False)
omit hg hG hx in
theorem outS_c {G : Gh} {W : World} {d : D} {ds : List D} {v : Value} (h : DenX G W d v) : D1 G W (match d :: ds with
  | .nl :: _ => ((.nil, True) : S1 × Prop)
  | d :: _ => (.c d, True)
  | [] => (.k undef, False)).1 v := by
  cases d with
  | nl => exact D1_nl h
  | _ => exact h
def evField (P : Program) (s : List (Nat × SV)) (g : Bool) (t : TypeId) (x : Operand) (f : Nat) : Ev := match opd s g x, fo P t f with
  | (.agg l, p), some (off, ft) => { x := some (.one (outS (ag P ft) (sz P ft) (l.drop off)).1), ob := p ∧ un P ft = true ∧ 0 < sz P ft ∧ (outS (ag P ft) (sz P ft) (l.drop off)).2 }
  | _, _ => bad
omit hg hG hx in
theorem run_part {t : TypeId} {l : List D} {us : Array Value} (hu : un P t = true) (hs : 0 < sz P t) (h : DenXL G W l us.toList) (off : Nat) (ho : (outS (ag P t) (sz P t) (l.drop off)).2) :
    ∃ v, (part t us off).run P W = .ok v W ∧ D1 G W (outS (ag P t) (sz P t) (l.drop off)).1 v := by
  unfold outS at ho ⊢
  cases hag : ag P t
  · rw [hag] at ho
    simp only [Bool.false_eq_true, if_false] at ho ⊢
    cases hd : l.drop off with
    | nil => rw [hd] at ho; exact ho.elim
    | cons d ds =>
      have h1 : l[off]? = some d := by
        have := congrArg (fun z : List D => z[0]?) hd
        simpa using this
      obtain ⟨u, h2, h3⟩ := h.get h1
      exact ⟨u, by simp [part, run_ag hu, hag, show us[off]? = some u by simpa using h2], outS_c h3⟩
  · simp only [if_true]
    refine ⟨.agg (us.extract off (off + sz P t)), by simp [part, run_ag hu, hag, run_sz hs], ?_⟩
    refine ⟨_, rfl, ?_⟩
    have := (h.drop off).take (sz P t)
    rw [Array.toList_extract]
    simpa [List.extract] using this
theorem ok_field {t : TypeId} {x : Operand} {f : Nat} (ho : o.op = .field t x f) (h1 : Okd G W s a x) (hob : (evField P s g t x f).ob) : Does P M A0 w0 G a W o (evField P s g t x f) := by
  have d1 := opd_ok hg h1
  unfold evField at hob ⊢
  split at hob
  · next l p off ft e1 e2 =>
    rw [e1] at d1
    obtain ⟨us, he, hd⟩ := d1 hob.1
    obtain ⟨fs, fd, f1, f2, rfl, rfl⟩ := fo_spec e2
    obtain ⟨v, hv, hd2⟩ := run_part hob.2.1 hob.2.2.1 hd fd.offset hob.2.2.2
    exact does_pure hG hx (v := v) (by simp [execOp, ho, he, Instr.field, run_underlying f1, f2, asAgg, hv]) hd2
  · exact hob.elim
omit hg hG hx in
theorem isSl_spec {t e : TypeId} (h : isSl P t = some e) : P.underlying t = some (.slice e) := by
  unfold isSl at h
  split at h
  · next hu => rw [hu]; obtain rfl := Option.some.inj h; rfl
  · cases h
omit hg hG hx in
theorem isAr_spec {t e : TypeId} {n : Nat} (h : isAr P t = some (n, e)) : P.underlying t = some (.array n e) := by
  unfold isAr at h
  split at h
  · next hu => rw [hu]; obtain ⟨rfl, rfl⟩ := Prod.mk.inj (Option.some.inj h); rfl
  · cases h
def evIndexAddr (P : Program) (s : List (Nat × SV)) (g : Bool) (t : TypeId) (x i : Operand) : Ev := match opd s g i with
  | (.c (.int _ n), q) => match isSl P t with
    | some e => match asSl (opd s g x).1 with
      | some l => { x := some (.one (.ptr ((l[n.toNat]?).getD []))), ob := (opd s g x).2 ∧ q ∧ 0 ≤ n ∧ n < l.length ∧ 0 < sz P e ∧ ((l[n.toNat]?).getD []).length = sz P e }
      | none => match (opd s g x).1 with
        | .c (.lk k m) => { x := some (.one (.xp k (sz P e) n.toNat 0)), ob := (opd s g x).2 ∧ q ∧ 0 ≤ n ∧ n < m ∧ 0 < sz P e }
        | _ => bad
    | none => match isAr P t with
      | some (m, e) => match opd s g x with
        | (.box k j, p) => { x := some (.one (.box k (j + n.toNat * sz P e))), ob := p ∧ q ∧ 0 ≤ n ∧ n < m ∧ 0 < sz P e }
        | (.ptr cs, p) => { x := some (.one (.ptr (cs.drop (n.toNat * sz P e)))), ob := p ∧ q ∧ 0 ≤ n ∧ n < m ∧ 0 < sz P e }
        | (.xp k K i j, p) => { x := some (.one (.xp k K i (j + n.toNat * sz P e))), ob := p ∧ q ∧ 0 ≤ n ∧ n < m ∧ 0 < sz P e }
        | _ => bad
      | none => bad
  | _ => bad
theorem ok_indexAddr {t : TypeId} {x i : Operand} (ho : o.op = .indexAddr t x i) (h1 : Okd G W s a x) (h2 : Okd G W s a i) (hob : (evIndexAddr P s g t x i).ob) : Does P M A0 w0 G a W o (evIndexAddr P s g t x i) := by
  have d1 := opd_ok hg h1
  have d2 := opd_ok hg h2
  unfold evIndexAddr at hob ⊢
  split at hob
  · next k n q e2 =>
    rw [e2] at d2
    split at hob
    · next e hsl =>
      split at hob
      · next l hl =>
        obtain ⟨hp, hq, hn0, hnl, hs0, hlen⟩ := hob
        have hi := D1_int (d2 hq)
        have hd := asSl_ok (d1 hp) hl
        have hlt : n.toNat < l.length := by omega
        have hc : l[n.toNat]? = some l[n.toNat] := List.getElem?_eq_getElem hlt
        obtain ⟨b, off, c, K, he, hK, hat⟩ := den_at hd hc
        have hKs : K = sz P e := by rw [← hlen, hc]; exact (hK _ (List.getElem_mem _)).symm
        subst hKs
        have hnl' : n < (l.length : Int) := hnl
        refine does_pure hG hx (v := .pointer (some ⟨b, off + n.toNat * sz P e, none⟩)) ?_ ⟨b, _, rfl, by rw [hc]; exact hat⟩
        simp [execOp, ho, he, hi, Instr.indexAt, run_underlying (isSl_spec hsl), asIntOf, hn0, hnl', run_sz hs0, addr_add']
      · split at hob
        · next k m hlk =>
          obtain ⟨hp, hq, hn0, hnl, hs0⟩ := hob
          have hi := D1_int (d2 hq)
          have d3 := d1 hp
          rw [hlk] at d3
          obtain ⟨ad, N, c, g1, g2, -, g3, he⟩ := d3
          have hnl' : n < (m : Int) := hnl
          rcases g3 with g3 | ⟨b, rfl⟩
          · omega
          refine does_pure hG hx (v := .pointer (some ⟨b, n.toNat * sz P e + 0, none⟩)) ?_ ⟨b, N, c, g1, rfl⟩
          simp [execOp, ho, he, hi, Instr.indexAt, run_underlying (isSl_spec hsl), asIntOf, hn0, hnl', run_sz hs0, addr_add']
        · exact hob.elim
    · split at hob
      · next m e har =>
        split at hob
        · next k j p e1 =>
          rw [e1] at d1
          obtain ⟨hp, hq, hn0, hnl, hs0⟩ := hob
          have hi := D1_int (d2 hq)
          obtain ⟨b, hb, he⟩ := d1 hp
          refine does_pure hG hx (v := .pointer (some ⟨b, j + n.toNat * sz P e, none⟩)) ?_ ⟨b, hb, rfl⟩
          simp [execOp, ho, he, hi, Instr.indexAt, run_underlying (isAr_spec har), asIntOf, Instr.sureAddr, hn0, hnl, run_sz hs0, addr_add']
        · next cs p e1 =>
          rw [e1] at d1
          obtain ⟨hp, hq, hn0, hnl, hs0⟩ := hob
          have hi := D1_int (d2 hq)
          obtain ⟨b, j, he, hb⟩ := d1 hp
          refine does_pure hG hx (v := .pointer (some ⟨b, j + n.toNat * sz P e, none⟩)) ?_ ⟨b, _, rfl, hb.drop _⟩
          simp [execOp, ho, he, hi, Instr.indexAt, run_underlying (isAr_spec har), asIntOf, Instr.sureAddr, hn0, hnl, run_sz hs0, addr_add']
        · next k K i' j p e1 =>
          rw [e1] at d1
          obtain ⟨hp, hq, hn0, hnl, hs0⟩ := hob
          have hi := D1_int (d2 hq)
          obtain ⟨b, N, c, hb, he⟩ := d1 hp
          refine does_pure hG hx (v := .pointer (some ⟨b, i' * K + j + n.toNat * sz P e, none⟩)) ?_ ⟨b, N, c, hb, by rw [Nat.add_assoc]⟩
          simp [execOp, ho, he, hi, Instr.indexAt, run_underlying (isAr_spec har), asIntOf, Instr.sureAddr, hn0, hnl, run_sz hs0, addr_add']
        · exact hob.elim
      · exact hob.elim
  · exact hob.elim
def evIndex (P : Program) (s : List (Nat × SV)) (g : Bool) (t : TypeId) (x i : Operand) : Ev := match opd s g x, opd s g i, isAr P t with
  | (.agg l, p), (.c (.int _ n), q), some (m, e) => { x := some (.one (outS (ag P e) (sz P e) (l.drop (n.toNat * sz P e))).1), ob := p ∧ q ∧ 0 ≤ n ∧ n < m ∧ un P e = true ∧ 0 < sz P e ∧ (outS (ag P e) (sz P e) (l.drop (n.toNat * sz P e))).2 }
  | _, _, _ => bad
theorem ok_index {t : TypeId} {x i : Operand} (ho : o.op = .index t x i) (h1 : Okd G W s a x) (h2 : Okd G W s a i) (hob : (evIndex P s g t x i).ob) : Does P M A0 w0 G a W o (evIndex P s g t x i) := by
  have d1 := opd_ok hg h1
  have d2 := opd_ok hg h2
  unfold evIndex at hob ⊢
  split at hob
  · next l p k n q m e e1 e2 har =>
    rw [e1] at d1
    rw [e2] at d2
    obtain ⟨hp, hq, hn0, hnl, hu, hs0, hout⟩ := hob
    obtain ⟨us, he, hd⟩ := d1 hp
    have hi := D1_int (d2 hq)
    obtain ⟨v, hv, hd2⟩ := run_part hu hs0 hd (n.toNat * sz P e) hout
    exact does_pure hG hx (v := v) (by simp [execOp, ho, he, hi, Instr.index, run_underlying (isAr_spec har), asIntOf, hn0, hnl, run_sz hs0, hv]) hd2
  · exact hob.elim
def evExtract (s : List (Nat × SV)) (g : Bool) (t : Operand) (i : Nat) : Ev := match t with
  | .tmp t => match gs s t with
    | .tup g' l => match l[i]? with
      | some x => { x := some (.one x), ob := g = true → g' = true }
      | none => bad
    | _ => bad
  | _ => bad
theorem ok_extract {t : Operand} {i : Nat} (ho : o.op = .extract t i) (h1 : Okd G W s a t) (hob : (evExtract s g t i).ob) : Does P M A0 w0 G a W o (evExtract s g t i) := by
  unfold evExtract at hob ⊢
  split at hob
  · next t =>
    change Hs G W (gs s t) (V a t) at h1
    split at hob
    · next g' l e1 =>
      rw [e1] at h1
      split at hob
      · next x hl =>
        obtain ⟨us, he, hd⟩ := h1.1 (hob hg)
        have hlt := (List.getElem?_eq_some_iff.1 hl).1
        have hlen := hd.1
        have hu : us.toList[i]? = some (us.toList[i]'(by omega)) := List.getElem?_eq_getElem _
        refine does_pure hG hx (v := us.toList[i]'(by omega)) ?_ (hd.2 i x _ hl hu)
        have hu' : us[i]? = some (us.toList[i]'(by omega)) := by rw [← hu]; simp
        simp only [execOp, ho, V_eval, he, Instr.extract, hu']
        rfl
      · exact hob.elim
    · exact hob.elim
  · exact hob.elim
end
end Go.Proofs.Ytmngjifcgfnogaa.Dq
