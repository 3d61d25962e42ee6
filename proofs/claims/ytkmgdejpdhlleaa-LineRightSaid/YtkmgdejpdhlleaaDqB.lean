/- Deep values: regions as they are reckoned. No program in sight. -/
import Derived.Test.YtkmgdejpdhlleaaDqA
namespace Go.Proofs.Ytkmgdejpdhlleaa.Dq
set_option linter.unusedSimpArgs false
set_option linter.unusedVariables false
set_option maxRecDepth 100000
open Go.RowKit

/-- An operation without its edges. -/
structure SOp where
  dst : Option Nat
  op : Op
  gd : Option (Option Nat × Bool)
def XA (ops : List Oper) (o : Oper) : SOp := ⟨o.dst, o.op, match o.guard with
  | none => none
  | some (j, w) => some ((ops[j]?).bind (·.dst), w)⟩
def gdS (s : List (Nat × SV)) : Option (Option Nat × Bool) → Bool × Prop
  | none => (true, True)
  | some (none, _) => (false, False)
  | some (some t, want) => match gs s t with
    | .v g' (.c (.bool b)) => (g' && (if want then b else !b), True)
    | _ => (false, False)
def put1 (d : Option Nat) (g : Bool) (x : Option V1) (s : List (Nat × SV)) : List (Nat × SV) := match d with
  | some d => (d, sv g x) :: s
  | none => s
/-- What is owed, and what follows. -/
def go1 (g : Bool × Prop) (e : Ev) (d : Option Nat) (σ : St) (K : Ev → St → Prop) : Prop :=
  (g.2 ∧ (g.1 = true → e.ob) ∧ ((e.wb.isEmpty && e.wr.isEmpty) = true ∨ g.1 = true)) ∧ K e ⟨put1 d g.1 e.x σ.s, e.wb ++ σ.b, e.wr ++ σ.r⟩
def evS (P : Program) (Γ : Cx) (σ : St) (o : SOp) : Ev := cutE (gdS σ.s o.gd).1 (ev P Γ σ o.gd.isNone (gdS σ.s o.gd).1 (o.dst.getD 0) o.op)
def wpS (P : Program) (Γ : Cx) : List SOp → St → (St → Prop) → Prop
  | [], σ, K => K σ
  | o :: rest, σ, K => go1 (gdS σ.s o.gd) (evS P Γ σ o) o.dst σ (fun _ σ' => wpS P Γ rest σ' K)
/-- What an operation reads and writes of boxes and rows. -/
abbrev Dy := List Nat × List Nat × List Nat
def wpT (P : Program) (Γ : Cx) : List SOp → St → List Dy → (List Dy → St → Prop) → Prop
  | [], σ, fs, K => K fs.reverse σ
  | o :: rest, σ, fs, K => go1 (gdS σ.s o.gd) (evS P Γ σ o) o.dst σ (fun e σ' => wpT P Γ rest σ' ((e.rb, e.wb.map (·.1), e.wr.map (·.1)) :: fs) K)
def ftsOf (ops : Array Oper) : List Oper → List Dy → List Ft
  | o :: os, y :: ys => ⟨o.dst, lookO ops o, y.1, y.2.1, y.2.2⟩ :: ftsOf ops os ys
  | _, _ => []
def chk (ops : Array Oper) (ys : List Dy) : Bool := confs (bms [] ops.toList) 0 (ftsOf ops ops.toList ys)
section
variable {P : Program} {Γ : Cx} {N : Nat} {Q : Exit → St → Prop} {σ : St}
theorem gdS_is {ops : Array Oper} {o : Oper} : gdS σ.s (XA ops.toList o).gd = gd ops σ o := by
  unfold gd XA
  cases hg : o.guard with
  | none => rfl
  | some jw =>
    obtain ⟨j, w⟩ := jw
    dsimp only
    rw [Array.getElem?_toList]
    cases ht : (ops[j]?).bind (·.dst) <;> rfl
theorem evS_is {ops : Array Oper} {o : Oper} : evS P Γ σ (XA ops.toList o) = evO P Γ ops σ o := by
  unfold evS evO
  rw [gdS_is]
  unfold XA
  cases hg : o.guard <;> rfl
theorem go1_is {ops : Array Oper} {o : Oper} {K : Ev → St → Prop} : go1 (gdS σ.s (XA ops.toList o).gd) (evS P Γ σ (XA ops.toList o)) (XA ops.toList o).dst σ K ↔ obl P Γ ops σ o ∧ K (evO P Γ ops σ o) (nx P Γ ops σ o) := by
  unfold go1
  rw [gdS_is, evS_is]
  rfl
theorem wpS_is {ops : Array Oper} {K : St → Prop} : ∀ (rest : List Oper) (σ : St), wpS P Γ (rest.map (XA ops.toList)) σ K → wpR P Γ ops rest σ K
  | [], σ, h => h
  | o :: rest, σ, h => by
    obtain ⟨h1, h2⟩ := go1_is.1 (show go1 _ _ _ _ _ from h)
    exact ⟨h1, wpS_is rest _ h2⟩
theorem wpT_is {ops : Array Oper} {K : St → Prop} : ∀ (rest : List Oper) (σ : St) (pre : List Oper) (ys : List Dy) (fs : List Ft), ops.toList = pre ++ rest → ys.length = pre.length → ftsOf ops pre ys.reverse = fs.reverse →
    wpT P Γ (rest.map (XA ops.toList)) σ ys (fun ys σ => chk ops ys = true ∧ K σ) → wpD P Γ ops rest σ fs K
  | [], σ, pre, ys, fs, hp, hl, hf, h => by
    obtain ⟨h1, h2⟩ := h
    refine ⟨?_, h2⟩
    unfold chk at h1
    rw [show pre = ops.toList by simpa using hp.symm] at hf
    rw [hf] at h1
    exact h1
  | o :: rest, σ, pre, ys, fs, hp, hl, hf, h => by
    obtain ⟨h1, h2⟩ := go1_is.1 (show go1 _ _ _ _ _ from h)
    refine ⟨h1, wpT_is rest _ (pre ++ [o]) _ _ (by simpa using hp) (by simp [hl]) ?_ h2⟩
    have : ∀ (pre : List Oper) (zs : List Dy) (y : Dy), zs.length = pre.length → ftsOf ops (pre ++ [o]) (zs ++ [y]) = ftsOf ops pre zs ++ [⟨o.dst, lookO ops o, y.1, y.2.1, y.2.2⟩] := by
      intro pre
      induction pre with
      | nil => intro zs y hz; obtain rfl := List.eq_nil_of_length_eq_zero hz; rfl
      | cons p pre ih =>
        intro zs y hz
        cases zs with
        | nil => simp at hz
        | cons z zs => simp [ftsOf, ih zs y (by simpa using hz)]
    rw [List.reverse_cons, this pre ys.reverse _ (by simpa using hl), hf, List.reverse_cons]
    rfl
theorem DW.reg {id : Nat} {ops : Array Oper} (hfit : fits ops N = true) (h : wpS P Γ (ops.toList.map (XA ops.toList)) σ (Q .normal)) : DW P Γ N (.region id ops false) Q σ := DW.region hfit (wpS_is _ _ h)
theorem DW.drw {id : Nat} {ops : Array Oper} (hfit : fits ops N = true) (hac : acyc .any ops = true) (h : wpT P Γ (ops.toList.map (XA ops.toList)) σ [] (fun ys σ => chk ops ys = true ∧ Q .normal σ)) : DW P Γ N (.region id ops true) Q σ := DW.drawn hfit hac (wpT_is ops.toList σ [] [] [] rfl rfl rfl h)
/-- Slots that are looked at later. -/
def keep (s : List (Nat × SV)) : List Nat → List (Nat × SV)
  | [] => []
  | t :: l => match gs s t with
    | .top => keep s l
    | v => (t, v) :: keep s l
def kp (lv : List Nat) (σ : St) : St := ⟨keep σ.s lv, σ.b, σ.r⟩
theorem keep_get (s : List (Nat × SV)) (t : Nat) : ∀ lv : List Nat, gs (keep s lv) t = .top ∨ gs (keep s lv) t = gs s t
  | [] => .inl rfl
  | u :: l => by
    unfold keep
    split
    · exact keep_get s t l
    · next v hv =>
      have ih := keep_get s t l
      by_cases hut : u = t
      · subst hut
        right
        show (if u = u then gs s u else gs (keep s l) u) = _
        rw [if_pos rfl]
      · have : gs ((u, gs s u) :: keep s l) t = gs (keep s l) t := by
          show (if u = t then gs s u else gs (keep s l) t) = _
          rw [if_neg hut]
        rw [this]
        exact ih
theorem RR.keep {M : Nat → Prop} {A0 : Pr} {w0 : World} {N : Nat} {df : Fx} {G : Gh} {σ : St} {a : Act} {W : World} (h : RR M A0 w0 N df G σ a W) (lv : List Nat) : RR M A0 w0 N df G (kp lv σ) a W := by
  refine ⟨h.ok, h.ext, h.size, h.df, fun t => ?_, h.b, h.r, h.p⟩
  show Hs G W (gs (Dq.keep σ.s lv) t) (V a t)
  rcases keep_get σ.s t lv with e | e
  · rw [e]; trivial
  · rw [e]; exact h.s t
/-- The same, with the slots that are looked at later. -/
def DV (P : Program) (Γ : Cx) (N : Nat) (_lv : List Nat) (c : Code) (Q : Exit → St → Prop) (σ : St) : Prop := DW P Γ N c Q σ
theorem DW.kept {c : Code} (lv : List Nat) (h : DW P Γ N c (thenD (fun σ => Q .normal (kp lv σ)) Q) σ) : DW P Γ N c Q σ := fun h1 h2 M A0 w0 df G a W hR => by
  refine wp_mono (h h1 h2 M A0 w0 df G a W hR) (fun e a W ⟨σ', G', k1, k2⟩ => ?_)
  cases e with
  | normal => exact ⟨kp lv σ', G', k1, k2.keep lv⟩
  | _ => exact ⟨σ', G', k1, k2⟩
section
variable {lv : List Nat} {σ2 : St} {c x y : Code} {id : Nat} {ops : Array Oper}
theorem wpS_mono {K K' : St → Prop} (hK : ∀ σ, K σ → K' σ) : ∀ (l : List SOp) (σ : St), wpS P Γ l σ K → wpS P Γ l σ K'
  | [], σ, h => hK σ h
  | o :: rest, σ, h => ⟨h.1, wpS_mono hK rest _ h.2⟩
theorem wpT_mono {K K' : List Dy → St → Prop} (hK : ∀ ys σ, K ys σ → K' ys σ) : ∀ (l : List SOp) (σ : St) (ys : List Dy), wpT P Γ l σ ys K → wpT P Γ l σ ys K'
  | [], σ, ys, h => hK _ σ h
  | o :: rest, σ, ys, h => ⟨h.1, wpT_mono hK rest _ _ h.2⟩
theorem DV.seqreg (hfit : fits ops N = true) (h : wpS P Γ (ops.toList.map (XA ops.toList)) σ (fun σ' => kp lv σ' = σ2)) (k : DV P Γ N lv y Q σ2) : DV P Γ N lv (.seq (.region id ops false) y) Q σ :=
  DW.seq (DW.kept lv (DW.reg hfit (wpS_mono (fun σ' e => by subst e; exact k) _ _ h)))
theorem DV.seqdrw (hfit : fits ops N = true) (hac : acyc .any ops = true) {ys : List Dy} (h : wpT P Γ (ops.toList.map (XA ops.toList)) σ [] (fun zs σ' => zs = ys ∧ kp lv σ' = σ2)) (hc : chk ops ys = true) (k : DV P Γ N lv y Q σ2) : DV P Γ N lv (.seq (.region id ops true) y) Q σ :=
  DW.seq (DW.kept lv (DW.drw hfit hac (wpT_mono (fun zs σ' e => by obtain ⟨rfl, e⟩ := e; subst e; exact ⟨hc, k⟩) _ _ _ h)))
theorem DV.reg (hfit : fits ops N = true) (h : wpS P Γ (ops.toList.map (XA ops.toList)) σ (fun σ' => kp lv σ' = σ2)) (k : Q .normal σ2) : DV P Γ N lv (.region id ops false) Q σ :=
  DW.kept lv (DW.reg hfit (wpS_mono (fun σ' e => by subst e; exact k) _ _ h))
theorem DV.drw (hfit : fits ops N = true) (hac : acyc .any ops = true) {ys : List Dy} (h : wpT P Γ (ops.toList.map (XA ops.toList)) σ [] (fun zs σ' => zs = ys ∧ kp lv σ' = σ2)) (hc : chk ops ys = true) (k : Q .normal σ2) : DV P Γ N lv (.region id ops true) Q σ :=
  DW.kept lv (DW.drw hfit hac (wpT_mono (fun zs σ' e => by obtain ⟨rfl, e⟩ := e; subst e; exact ⟨hc, k⟩) _ _ _ h))
theorem DV.seq (h : DV P Γ N lv x (thenD (DV P Γ N lv y Q) Q) σ) : DV P Γ N lv (.seq x y) Q σ := DW.seq h
theorem DV.sseq {z : Code} (h : DV P Γ N lv (.seq x y) (thenD (DV P Γ N lv z Q) Q) σ) : DV P Γ N lv (.seq (.seq x y) z) Q σ := DW.seq h
theorem DV.sblock (h : DV P Γ N lv c (blockD id (thenD (DV P Γ N lv y Q) Q)) σ) : DV P Γ N lv (.seq (.block id c) y) Q σ := DW.seq (DW.block h)
theorem DV.scond {o : Operand} {z : Code} (h : DV P Γ N lv (.cond o x y) (thenD (DV P Γ N lv z Q) Q) σ) : DV P Γ N lv (.seq (.cond o x y) z) Q σ := DW.seq h
theorem DV.sloop (h : DV P Γ N lv (.loop c) (thenD (DV P Γ N lv y Q) Q) σ) : DV P Γ N lv (.seq (.loop c) y) Q σ := DW.seq h
theorem DV.block (h : DV P Γ N lv c (blockD id Q) σ) : DV P Γ N lv (.block id c) Q σ := DW.block h
theorem DV.skip (h : Q .normal σ) : DV P Γ N lv .skip Q σ := DW.skip h
theorem DV.exit (h : Q (.exit id) σ) : DV P Γ N lv (.exit id) Q σ := DW.exit h
theorem DV.ret (h : Q .ret σ) : DV P Γ N lv .ret Q σ := DW.ret h
theorem DV.cond {o : Operand} {b : Bool} {p : Prop} (hc : opd σ.s true o = (.c (.bool b), p)) (hp : p) (ht : b = true → DV P Γ N lv x Q σ) (hf : b = false → DV P Γ N lv y Q σ) : DV P Γ N lv (.cond o x y) Q σ := DW.cond hc hp ht hf
theorem DV.condT {o : Operand} {p : Prop} (hc : opd σ.s true o = (.c (.bool true), p)) (hp : p) (h : DV P Γ N lv x Q σ) : DV P Γ N lv (.cond o x y) Q σ := DW.cond hc hp (fun _ => h) (fun e => by cases e)
theorem DV.condF {o : Operand} {p : Prop} (hc : opd σ.s true o = (.c (.bool false), p)) (hp : p) (h : DV P Γ N lv y Q σ) : DV P Γ N lv (.cond o x y) Q σ := DW.cond hc hp (fun e => by cases e) (fun _ => h)
theorem DV.loop {α : Type} (st : α → St) (I : α → Prop) (μ : α → Nat) (x0 : α) (h0 : I x0) (hw : Wk σ (st x0)) (round : ∀ x, I x → DV P Γ N lv c (thenD (fun σ' => ∃ x', (I x' ∧ μ x' < μ x) ∧ Wk σ' (st x')) Q) (st x)) : DV P Γ N lv (.loop c) Q σ := DW.loop st I μ x0 h0 hw round
theorem DV.weak {σ' : St} (hw : Wk σ σ') (h : DV P Γ N lv c Q σ') : DV P Γ N lv c Q σ := DW.weak hw h
theorem DV.of {f : FuncId} {fn : Func} {args : List S1} {res : CR} {rs : List ResultVar} (lv : List Nat) (hΓ : Snd P Γ) (hm : P.follows .mixedOrders = true) (hf : P.funcs[f]? = some fn) (hb : fn.body = some c) (hN : fn.ntmps = N) (hn : Nat.ble args.length N = true) (hrs : fn.results.toList = rs) (h : DV P Γ N lv c (retD P rs res) ⟨XB 0 args, [], []⟩) : Cal P f args res := by
  subst hrs
  exact cal_of hΓ hm hf hb hN (Nat.le_of_ble_eq_true hn) h
/-- How a kind of element lies in cells. -/
structure Cod (α : Type) where
  K : Nat
  enc : α → List D
  dec : List D → α
  de : ∀ x, dec (enc x) = x
  len : ∀ x, (enc x).length = K
  lf : ∀ x, lf0s (enc x) = true
def encL {α : Type} (C : Cod α) (l : List α) : List (List D) := l.map C.enc
def decL {α : Type} (C : Cod α) (l : List (List D)) : List α := l.map C.dec
section
variable {α : Type} {C : Cod α}
theorem decL_encL (l : List α) : decL C (encL C l) = l := by
  unfold decL encL
  rw [List.map_map]
  conv => rhs; rw [← List.map_id l]
  exact List.map_congr_left (fun x _ => C.de x)
theorem encL_len (l : List α) : (encL C l).length = l.length := List.length_map ..
theorem encL_nil : encL C [] = [] := rfl
theorem encL_app (l m : List α) : encL C (l ++ m) = encL C l ++ encL C m := List.map_append
theorem encL_cons (x : α) (l : List α) : encL C (x :: l) = C.enc x :: encL C l := rfl
theorem encL_take (l : List α) (n : Nat) : (encL C l).take n = encL C (l.take n) := List.map_take.symm
theorem encL_get {l : List α} {i : Nat} {x : α} (h : l[i]? = some x) : (encL C l)[i]? = some (C.enc x) := by unfold encL; rw [List.getElem?_map, h]; rfl
theorem encL_all (l : List α) : ∀ cs ∈ encL C l, cs.length = C.K := fun cs h => by
  obtain ⟨x, -, rfl⟩ := List.mem_map.1 h
  exact C.len x
/-- Is a list of cells one of elements? -/
def isL (C : Cod α) (l : List (List D)) : Prop := encL C (decL C l) = l
theorem isL_enc (l : List α) : isL C (encL C l) = True := eq_true (by unfold isL; rw [decL_encL])
end
section
variable {α : Type} {C : Cod α} {x : α} {l : List α} {bx : Bt} {rn : List (Nat × Option Nat)} {σ σ' : St}
theorem lfs_enc : lfs (C.enc x) = true := lf0s_lfs (C.lf x)
theorem lfL_encL : lfL (encL C l) = True := eq_true fun cs h => by
  obtain ⟨x, -, rfl⟩ := List.mem_map.1 h
  exact lfs_enc
theorem deNls_lf : ∀ {l : List D}, lf0s l = true → QY l = l
  | [], _ => rfl
  | d :: l, h => by
    have h := (Bool.and_eq_true _ _).mp h
    have h1 : QW d = d := by cases d <;> first | rfl | cases h.1
    rw [QY, h1, deNls_lf h.2]
theorem deNls_enc : QY (C.enc x) = C.enc x := deNls_lf (C.lf x)
theorem demDs_enc : QR bx (C.enc x) = (C.enc x, True) := demDs_lf (C.lf x)
theorem refDs_lf : ∀ {l : List D}, lfs l = true → Q3 l = []
  | [], _ => rfl
  | d :: l, h => by
    have h := (Bool.and_eq_true _ _).mp h
    have h1 : Q2 d = [] := by cases d <;> first | rfl | cases h.1
    simp [Q3, h1, refDs_lf h.2]
theorem refDs_enc : Q3 (C.enc x) = [] := refDs_lf lfs_enc
theorem convDs_lf : ∀ {l : List D}, lf0s l = true → XJ rn σ σ' l l
  | [], _ => trivial
  | d :: l, h => by
    have h := (Bool.and_eq_true _ _).mp h
    refine ⟨?_, convDs_lf h.2⟩
    cases d with
    | lk k n => cases h.1
    | nl => cases h.1
    | fb f ks => cases h.1
    | _ => rfl
theorem XR : XJ rn σ σ' (C.enc x) (C.enc x) = True := eq_true (convDs_lf (C.lf x))
theorem XS : lkL rn σ' (encL C l) = True := eq_true fun cs h d hd => by
  obtain ⟨x, -, rfl⟩ := List.mem_map.1 h
  have : ∀ {l : List D}, lf0s l = true → d ∈ l → lkOk rn σ' d := fun {l} => by
    induction l with
    | nil => intro _ h; cases h
    | cons e l ih =>
      intro h hm
      have h := (Bool.and_eq_true _ _).mp h
      rcases List.mem_cons.1 hm with rfl | hm
      · cases d <;> first | trivial | cases h.1
      · exact ih h.2 hm
  exact this (C.lf x) hd
theorem encL_set {i : Nat} {y : α} : (encL C l).set i (C.enc y) = encL C (l.set i y) := List.map_set.symm
end
theorem XT {rn : List (Nat × Option Nat)} {σ' : St} : lkL rn σ' [] = True := eq_true nofun
theorem XU {rn : List (Nat × Option Nat)} {σ' : St} {l m : List (List D)} : lkL rn σ' (l ++ m) = (lkL rn σ' l ∧ lkL rn σ' m) := by
  apply propext
  exact ⟨fun h => ⟨fun c hc => h c (List.mem_append_left _ hc), fun c hc => h c (List.mem_append_right _ hc)⟩, fun h c hc => (List.mem_append.1 hc).elim (h.1 c) (h.2 c)⟩
theorem XV {α : Type} {C : Cod α} {x : α} {rn : List (Nat × Option Nat)} {σ' : St} {m : List (List D)} : lkL rn σ' (C.enc x :: m) = lkL rn σ' m := by
  apply propext
  have h1 : lkL rn σ' [C.enc x] := by have := XS (C := C) (l := [x]) (rn := rn) (σ' := σ'); rw [encL_cons, encL_nil] at this; exact of_eq_true this
  exact ⟨fun h c hc => h c (List.mem_cons_of_mem _ hc), fun h c hc => (List.mem_cons.1 hc).elim (fun e => h1 c (List.mem_singleton.2 e)) (h c)⟩
theorem lfL_app {l m : List (List D)} : lfL (l ++ m) = (lfL l ∧ lfL m) := by
  apply propext
  exact ⟨fun h => ⟨fun c hc => h c (List.mem_append_left _ hc), fun c hc => h c (List.mem_append_right _ hc)⟩, fun h c hc => (List.mem_append.1 hc).elim (h.1 c) (h.2 c)⟩
theorem lfL_cons {x : List D} {m : List (List D)} : lfL (x :: m) = (lfs x = true ∧ lfL m) := by
  apply propext
  exact ⟨fun h => ⟨h x List.mem_cons_self, fun c hc => h c (List.mem_cons_of_mem _ hc)⟩, fun h c hc => (List.mem_cons.1 hc).elim (fun e => e ▸ h.1) (h.2 c)⟩
theorem lfL_nil : lfL [] = True := eq_true nofun
theorem capB {n k : Nat} (h : n ≤ 2000000000) (hk : k ≤ 1000) : n * k ≤ 140737488355328 := Nat.le_trans (Nat.mul_le_mul h hk) (by decide)
theorem range1 : List.range 1 = [0] := rfl
/-- A slice is nil or not. -/
theorem Cal.sn {P : Program} {f : FuncId} {l : List (List D)} {args : List S1} {res : CR} (h : ∀ b, (b = true → l = []) → Cal P f (.sn b l :: args) res) : Cal P f (.c (.sl l) :: args) res := by
  intro A w vs hA hd
  cases vs with
  | nil => have := hd.1; simp at this
  | cons v vs =>
    have h0 : Den A w (.sl l) v := hd.2 0 _ v rfl rfl
    refine h (nilB v) (fun hb => ?_) A w (v :: vs) hA ⟨by have := hd.1; simpa using this, fun j x u h1 h2 => ?_⟩
    · generalize hdd : D.sl l = d at h0
      cases h0 with
      | nil a c => exact D.sl.inj hdd
      | sl => cases hb
      | _ => cases hdd
    · cases j with
      | zero =>
        obtain rfl : S1.sn (nilB v) l = x := by simpa using h1
        obtain rfl : v = u := by simpa using h2
        exact ⟨h0, rfl⟩
      | succ j => exact hd.2 (j + 1) x u (by simpa using h1) (by simpa using h2)
theorem i2n (n : Nat) : ((n : Int)).toNat = n := rfl
section
variable {K : St → Prop} {id id' : Nat}
theorem qa {y z : Code} {x : Code} (h : DV P Γ N lv (.seq x y) (thenD (DV P Γ N lv z Q) Q) σ) : DV P Γ N lv (.seq (.seq x y) z) Q σ := DV.sseq h
theorem qb {id : Nat} {c y : Code} (h : DV P Γ N lv c (blockD id (thenD (DV P Γ N lv y Q) Q)) σ) : DV P Γ N lv (.seq (.block id c) y) Q σ := DV.sblock h
theorem qc {o : Operand} {x y z : Code} (h : DV P Γ N lv (.cond o x y) (thenD (DV P Γ N lv z Q) Q) σ) : DV P Γ N lv (.seq (.cond o x y) z) Q σ := DV.scond h
theorem qd {c y : Code} (h : DV P Γ N lv (.loop c) (thenD (DV P Γ N lv y Q) Q) σ) : DV P Γ N lv (.seq (.loop c) y) Q σ := DV.sloop h
theorem qe {id : Nat} {c : Code} (h : DV P Γ N lv c (blockD id Q) σ) : DV P Γ N lv (.block id c) Q σ := DV.block h
theorem thenD_ret' (h : Q .ret σ) : thenD K Q .ret σ := h
theorem blockD_ret' (h : Q .ret σ) : blockD id Q .ret σ := h
theorem retD_ret' {rs : List ResultVar} {res : CR} (h : resOk P σ rs res) : retD P rs res .ret σ := h
theorem thenD_norm' (h : K σ) : thenD K Q .normal σ := h
theorem blockD_norm' (h : Q .normal σ) : blockD id Q .normal σ := h
theorem thenD_exit' (h : Q (.exit id) σ) : thenD K Q (.exit id) σ := h
theorem blockD_same (h : Q .normal σ) : blockD id Q (.exit id) σ := by show (if id = id then Q .normal σ else _); rw [if_pos rfl]; exact h
theorem blockD_other (hne : Nat.beq id' id = false) (h : Q (.exit id') σ) : blockD id Q (.exit id') σ := by
  show (if id' = id then Q .normal σ else _)
  rw [if_neg (fun e => by rw [e, Nat.beq_refl] at hne; cases hne)]
  exact h
end
theorem wrI (n : Int) (h : -9223372036854775808 ≤ n) (h' : n ≤ 9223372036854775807) : IntKind.wrap .i64 n = n := by rw [IntKind.wrap_i64]; omega
theorem wr1 (j : Nat) (h : j ≤ 1000000000000) : IntKind.wrap .i64 ((j : Int) + 1) = ((j + 1 : Nat) : Int) := by rw [IntKind.wrap_i64]; omega
theorem n0 : ((0 : Nat) : Int) = 0 := rfl
theorem cand (b u : Bool) : (bif b then u else false) = (b && u) := by cases b <;> rfl
theorem cor (b u : Bool) : (bif b then true else u) = (b || u) := by cases b <;> rfl
end
end
/-- The evaluator's rules about lists, Bools and numbers, in one. -/
theorem dq : (type_of% @lfs_enc) ∧ (type_of% @lfL_encL) ∧ (type_of% @lfL_nil) ∧ (type_of% @lfL_app) ∧ (type_of% @lfL_cons) ∧ (type_of% @demDs_enc) ∧ (type_of% @refDs_enc) ∧ (type_of% @encL_set) ∧ (type_of% @deNls_enc) ∧ (type_of% @allK_nil) ∧ (type_of% @allK_cons) ∧ (type_of% @List.set_cons_zero.{0}) ∧ (type_of% @List.set_cons_succ.{0}) ∧ (type_of% @List.any_cons.{0}) ∧ (type_of% @List.any_nil.{0}) ∧ (type_of% @List.contains_nil.{0}) ∧ (type_of% @List.contains_cons.{0}) ∧ (type_of% @List.replicate_zero.{0}) ∧ (type_of% @List.append_nil.{0}) ∧ (type_of% @Ob.mk.injEq) ∧ (type_of% @D.lk.injEq) ∧ (type_of% @S1.c.injEq) ∧ (type_of% @S1.agg.injEq) ∧ (type_of% @S1.ptr.injEq) ∧ (type_of% @List.cons.injEq.{0}) ∧ (type_of% @Nat.zero_le) ∧ (type_of% @Bool.not_eq_true') ∧ (type_of% @Bool.or_self) ∧ (type_of% @Bool.and_self) ∧ (type_of% @List.nil_append.{0}) ∧ (type_of% @List.cons_append.{0}) ∧ (type_of% @List.drop_succ_cons.{0}) ∧ (type_of% @List.drop_zero.{0}) ∧ (type_of% @List.drop_nil.{0}) ∧ (type_of% @List.take_succ_cons.{0}) ∧ (type_of% @List.take_zero.{0}) ∧ (type_of% @List.take_nil.{0}) ∧ (type_of% @List.getElem?_cons_zero.{0}) ∧ (type_of% @List.getElem?_cons_succ.{0}) ∧ (type_of% @List.getElem?_nil.{0}) ∧ (type_of% @List.length_cons.{0}) ∧ (type_of% @List.length_nil.{0}) ∧ (type_of% @List.isEmpty_nil.{0}) ∧ (type_of% @List.isEmpty_cons.{0}) ∧ (type_of% @List.reverse_cons.{0}) ∧ (type_of% @List.reverse_nil.{0}) ∧ (type_of% @Option.bind_some.{0, 0}) ∧ (type_of% @Option.bind_none.{0, 0}) ∧ (type_of% @Option.getD_some.{0}) ∧ (type_of% @Option.getD_none.{0}) ∧ (type_of% @Option.isNone_none.{0}) ∧ (type_of% @Option.isNone_some.{0}) ∧ (type_of% @Option.isSome_some.{0}) ∧ (type_of% @Option.map_some.{0, 0}) ∧ (type_of% @Option.map_none.{0, 0}) ∧ (type_of% @Bool.true_and) ∧ (type_of% @Bool.and_true) ∧ (type_of% @Bool.false_and) ∧ (type_of% @Bool.and_false) ∧ (type_of% @Bool.not_true) ∧ (type_of% @Bool.not_false) ∧ (type_of% @Bool.or_false) ∧ (type_of% @Bool.true_or) ∧ (type_of% @Bool.false_or) ∧ (type_of% @Bool.or_true) ∧ (type_of% @Bool.cond_true.{1}) ∧ (type_of% @Bool.cond_false.{1}) ∧ (type_of% @cond_true.{1}) ∧ (type_of% @cond_false.{1}) ∧ (type_of% @true_and) ∧ (type_of% @and_true) ∧ (type_of% @true_or) ∧ (type_of% @or_true) ∧ (type_of% @false_or) ∧ (type_of% @or_false) ∧ (type_of% @imp_self) ∧ (type_of% @forall_const.{0}) ∧ (type_of% @forall_const.{1}) ∧ (type_of% @implies_true.{0}) ∧ (type_of% @implies_true.{1}) ∧ (type_of% @true_implies) ∧ (type_of% @if_true.{1}) ∧ (type_of% @if_false.{1}) ∧ (type_of% @if_pos.{1}) ∧ (type_of% @Nat.add_zero) ∧ (type_of% @Nat.zero_add) ∧ (type_of% @eq_self.{1}) ∧ (type_of% @Prod.mk.injEq.{0, 0}) ∧ (type_of% @not_true_eq_false) ∧ (type_of% @not_false_eq_true) ∧ (type_of% @false_implies) ∧ (type_of% @decide_true) ∧ (type_of% @decide_false) ∧ (type_of% @Int.lt_irrefl) ∧ (type_of% @D.bool.injEq) ∧ (type_of% @D.int.injEq) ∧ (type_of% @D.sl.injEq) ∧ (type_of% @RowI.mk.injEq) ∧ (type_of% @Option.some.injEq.{0}) ∧ (type_of% @List.range_succ) ∧ (type_of% @List.range_zero) :=
  ⟨@lfs_enc, @lfL_encL, @lfL_nil, @lfL_app, @lfL_cons, @demDs_enc, @refDs_enc, @encL_set, @deNls_enc, @allK_nil, @allK_cons, @List.set_cons_zero.{0}, @List.set_cons_succ.{0}, @List.any_cons.{0}, @List.any_nil.{0}, @List.contains_nil.{0}, @List.contains_cons.{0}, @List.replicate_zero.{0}, @List.append_nil.{0}, @Ob.mk.injEq, @D.lk.injEq, @S1.c.injEq, @S1.agg.injEq, @S1.ptr.injEq, @List.cons.injEq.{0}, @Nat.zero_le, @Bool.not_eq_true', @Bool.or_self, @Bool.and_self, @List.nil_append.{0}, @List.cons_append.{0}, @List.drop_succ_cons.{0}, @List.drop_zero.{0}, @List.drop_nil.{0}, @List.take_succ_cons.{0}, @List.take_zero.{0}, @List.take_nil.{0}, @List.getElem?_cons_zero.{0}, @List.getElem?_cons_succ.{0}, @List.getElem?_nil.{0}, @List.length_cons.{0}, @List.length_nil.{0}, @List.isEmpty_nil.{0}, @List.isEmpty_cons.{0}, @List.reverse_cons.{0}, @List.reverse_nil.{0}, @Option.bind_some.{0, 0}, @Option.bind_none.{0, 0}, @Option.getD_some.{0}, @Option.getD_none.{0}, @Option.isNone_none.{0}, @Option.isNone_some.{0}, @Option.isSome_some.{0}, @Option.map_some.{0, 0}, @Option.map_none.{0, 0}, @Bool.true_and, @Bool.and_true, @Bool.false_and, @Bool.and_false, @Bool.not_true, @Bool.not_false, @Bool.or_false, @Bool.true_or, @Bool.false_or, @Bool.or_true, @Bool.cond_true.{1}, @Bool.cond_false.{1}, @cond_true.{1}, @cond_false.{1}, @true_and, @and_true, @true_or, @or_true, @false_or, @or_false, @imp_self, @forall_const.{0}, @forall_const.{1}, @implies_true.{0}, @implies_true.{1}, @true_implies, @if_true.{1}, @if_false.{1}, @if_pos.{1}, @Nat.add_zero, @Nat.zero_add, @eq_self.{1}, @Prod.mk.injEq.{0, 0}, @not_true_eq_false, @not_false_eq_true, @false_implies, @decide_true, @decide_false, @Int.lt_irrefl, @D.bool.injEq, @D.int.injEq, @D.sl.injEq, @RowI.mk.injEq, @Option.some.injEq.{0}, @List.range_succ, @List.range_zero⟩
end Go.Proofs.Ytkmgdejpdhlleaa.Dq
