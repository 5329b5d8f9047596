/- Texts of a claim, in one: part 5. -/
import Derived.KernelRfl
import Derived.Test.YtbgfeiagaieljaaGreatDoorKFd
/- The logic: what holds behind a piece of code, told from its text; that the pure machine does so. -/
set_option linter.unusedSimpArgs false
set_option linter.unusedVariables false
namespace Go.PM
def VT (f : Nat) (args : List VV) (r : VV) : Prop :=
  ∀ (F : Nat → Prop) (P : Heap) (pargs : List Value) (lop : Nat), (∀ b, F b → b < P.length) → VL (bare F P) args pargs → lop ≤ P.length →
    ∃ P' pv, pmCall f pargs lop P = some (pv, P') ∧ P <+: P' ∧ VR (bare (fun q => F q ∨ (P.length ≤ q ∧ q < P'.length)) P') r pv
def StepOk (lo lop : Nat) (V : View) (r : Option (Value × Heap)) (K : VV → VHeap → Prop) : Prop :=
  ∃ pv V' v, r = some (pv, V'.P) ∧ SR V' lo lop ∧ Eff lo V V' ∧ VR V' v pv ∧ K v V'.H
def VRaw (f : Nat) (args : List VV) (lo : Nat) (H : VHeap) (K : VV → VHeap → Prop) : Prop :=
  ∀ (V : View) (lop : Nat) (pargs : List Value), V.H = H → SR V lo lop → VL V args pargs → StepOk lo lop V (pmCall f pargs lop V.P) K
theorem VRaw.mono {f : Nat} {args : List VV} {lo : Nat} {H : VHeap} {K K' : VV → VHeap → Prop} (hk : ∀ v H, K v H → K' v H) (h : VRaw f args lo H K) : VRaw f args lo H K' := by
  intro V lop pargs hH hS hl
  obtain ⟨pv, V', v, h1, h2, h3, h4, h5⟩ := h V lop pargs hH hS hl
  exact ⟨pv, V', v, h1, h2, h3, h4, hk _ _ h5⟩
theorem VT.uniq {f : Nat} {args : List VV} {r r' : VV} (h : VT f args r) (h' : VT f args r') (ha : pureL args = true) (hr : resV r = true) (hr' : resV r' = true) : r = r' := by
  obtain ⟨P, ps, _, hl⟩ := realL args ha []
  obtain ⟨P', pv, h1, _, h2⟩ := h (· < P.length) P ps 0 (fun _ h => h) hl (Nat.zero_le _)
  obtain ⟨P'', pv', h3, _, h4⟩ := h' (· < P.length) P ps 0 (fun _ h => h) hl (Nat.zero_le _)
  rw [h1] at h3
  injection h3 with h3
  injection h3 with h3 h5
  subst h3 h5
  exact h2.uniq h4 hr hr'
open Classical in
noncomputable def vT (f : Nat) (args : List VV) : Option VV := if h : ∃ r, pureL args = true ∧ resV r = true ∧ VT f args r then some (Classical.choose h) else none
theorem vT_spec {f : Nat} {args : List VV} {r : VV} (h : vT f args = some r) : pureL args = true ∧ resV r = true ∧ VT f args r := by
  unfold vT at h
  split at h
  · rename_i hx
    cases h
    exact Classical.choose_spec hx
  · cases h
theorem vT_eq {f : Nat} {args : List VV} {r : VV} (ha : pureL args = true) (hr : resV r = true) (h : VT f args r) : vT f args = some r := by
  have hx : ∃ r, pureL args = true ∧ resV r = true ∧ VT f args r := ⟨r, ha, hr, h⟩
  unfold vT
  rw [dif_pos hx]
  obtain ⟨_, h2, h3⟩ := Classical.choose_spec hx
  rw [h3.uniq h ha h2 hr]
def tk (r : Option VV) (K : VV → Prop) : Prop := match r with
  | some r => K r
  | none => False
noncomputable def tstep (f : Nat) (args : List VV) (K : VV → Prop) : Prop := tk (vT f args) K
noncomputable def vcallP (f : Nat) (args : List VV) (lo : Nat) (H : VHeap) (K : VV → VHeap → Prop) : Prop :=
  if raws.contains f = true then VRaw f args lo H K
  else if pureL args = true then tstep f args fun r => K r H
  else match args.mapM (fz depth H) with
    | some args' => tstep f args' fun r => if flatV r = true then K r H else K r (freezeAll H (args.flatMap (fzIds depth H)))
    | none => False
noncomputable def vstep (fl : Fl) (lo : Nat) (q : Bool) (op : POp) (ρ : VEnv) (H : VHeap) (K : VV → VHeap → Prop) : Prop :=
  match op with
  | .call f args => vcallP f (args.map (vev ρ)) (if q then H.length else lo) H K
  | .callv fv args => match vev ρ fv with
    | .clo f caps => vcallP f (args.map (vev ρ) ++ caps) (if q then H.length else lo) H K
    | _ => False
  | o => match vop fl lo o ρ H with
    | some (v, H') => K v H'
    | none => False
noncomputable def VS (fl : Fl) (lo : Nat) : List PI → (VEnv → VHeap → Prop) → VEnv → VHeap → Prop
  | [], K, ρ, H => K ρ H
  | i :: is, K, ρ, H => match vwanted i.g ρ with
    | none => False
    | some false => VS fl lo is K (vput ρ i.dst vundef) H
    | some true => i.cf.all (vkeeps ρ H) = true ∧ vstep fl lo i.quiet i.op ρ H fun v H' => VS fl lo is K (vput ρ i.dst v) H'
def thaw : List Nat → VEnv → VHeap → Option (VEnv × VHeap)
  | [], ρ, H => some (ρ, H)
  | t :: ts, ρ, H => match fz depth H (ρ t) with
    | some v => thaw ts (vput ρ (some t) v) (freezeAll H (fzIds depth H (ρ t)))
    | none => none
def von (r : Option VV) (H : VHeap) (K : VV → VHeap → Prop) : Prop := match r with
  | some v => K v H
  | none => False
def gh (K : VEnv → VHeap → Prop) (ρ : VEnv) (H : VHeap) : Prop := ∃ ts ρ' H', thaw ts ρ H = some (ρ', H') ∧ K ρ' H'
def rowsBelow (k : Nat) (H : VHeap) : Bool := H.all fun
  | .row _ es _ _ => belowL k es
  | .dead => true
def scrubE (k : Nat) (ρ : VEnv) : VEnv := fun t => scrub k (ρ t)
abbrev VQ := Ex → VEnv → VHeap → Prop
def onNormal (K : VEnv → VHeap → Prop) (Q : VQ) : VQ
  | .normal => K
  | x => Q x
def onExit (id : Nat) (Q : VQ) : VQ
  | .exit id' => fun ρ H => if id' = id then Q .normal ρ H else Q (.exit id') ρ H
  | x => Q x
def loopN (body : VQ → VEnv → VHeap → Prop) (Q : VQ) : Nat → VEnv → VHeap → Prop
  | 0, _, _ => False
  | n + 1, ρ, H => body (onNormal (fun ρ' H' => loopN body Q n ρ' H' ∨ (rowsBelow H.length (H'.take H.length) = true ∧ loopN body Q n (scrubE H.length ρ') (H'.take H.length))) Q) ρ H
noncomputable def VW (fl : Fl) (lo : Nat) : PCode → VQ → VEnv → VHeap → Prop
  | .skip, Q, ρ, H => Q .normal ρ H
  | .reg ops, Q, ρ, H => VS fl lo ops (Q .normal) ρ H
  | .seq a b, Q, ρ, H => VW fl lo a (onNormal (VW fl lo b Q) Q) ρ H
  | .cond c a b, Q, ρ, H => match vev ρ c with
    | .sc (.bool t) => if t = true then VW fl lo a Q ρ H else VW fl lo b Q ρ H
    | _ => False
  | .block id a, Q, ρ, H => VW fl lo a (onExit id Q) ρ H
  | .loop a, Q, ρ, H => ∃ n, loopN (VW fl lo a) (fun x => gh (Q x)) n ρ H
  | .exit id, Q, ρ, H => Q (.exit id) ρ H
  | .ret, Q, ρ, H => Q .ret ρ H
def vres1 (ρ : VEnv) (H : VHeap) : PRes → Option VV
  | .tmp t => some (ρ t)
  | .cell t agg size => vload agg size (ρ t) H
def vresAll (ρ : VEnv) (H : VHeap) : List PRes → Option (List VV)
  | [] => some []
  | r :: rs => match vres1 ρ H r, vresAll ρ H rs with
    | some v, some vs => some (v :: vs)
    | _, _ => none
def vresult (res : List PRes) (ρ : VEnv) (H : VHeap) : Option VV :=
  match vresAll ρ H res with
  | some [v] => some v
  | some vs => some (.tup vs)
  | none => none
def vresK (R : VV → VHeap → Prop) : Option VV → VHeap → Prop
  | some v, H => R v H
  | none, _ => False
def vretQ (res : List PRes) (R : VV → VHeap → Prop) : VQ
  | .exit _, _, _ => False
  | .normal, ρ, H => vresK R (vresult res ρ H) H
  | .ret, ρ, H => vresK R (vresult res ρ H) H
def vpenv (args : List VV) : VEnv := fun k => args.getD k vundef
section
variable {lo lop : Nat}
theorem prefix_eff {V : View} (hS : SR V lo lop) {P' : Heap} (hp : V.P <+: P') : SR { V with P := P', F := fun q => V.F q ∨ (V.P.length ≤ q ∧ q < P'.length) } lo lop ∧ Eff lo V { V with P := P', F := fun q => V.F q ∨ (V.P.length ≤ q ∧ q < P'.length) } := by
  obtain ⟨L, rfl⟩ := hp
  have hU : Up V { V with P := V.P ++ L, F := fun q => V.F q ∨ (V.P.length ≤ q ∧ q < (V.P ++ L).length) } := ⟨fun _ h => .inl h, fun b hb => List.getElem?_append_left (hS.fr b hb), Nat.le_refl _, fun b g es e w _ h => ⟨g, es, w, h, Nat.le_refl _, fun _ => rfl⟩, rfl, by simp, fun b g es e w hb _ => ⟨g, es, w, hb, rfl, id⟩⟩
  refine ⟨⟨fun b g es e w hb => ?_, fun b g es e hb => ⟨fun hF => ?_, (hS.wr b g es e hb).2⟩, hS.inj, fun b hb => ?_, by have := hS.lol; simp; omega, by have := hS.bas; simp; omega⟩, { hU with keep := fun q hq _ => List.getElem?_append_left hq, fnew := fun q hq => ?_ }⟩
  · obtain ⟨r, p, h1, h2, h3⟩ := hS.row b g es e w hb
    exact ⟨r, p, by rw [← h1]; exact List.getElem?_append_left (hS.mlt hb), h2, h3.mono hU⟩
  · rcases hF with hF | hF
    · exact (hS.wr b g es e hb).1 hF
    · have h1 := hS.mlt hb
      have h2 : V.P.length ≤ V.m b := hF.1
      omega
  · rcases hb with hb | hb
    · have := hS.fr b hb
      simp; omega
    · exact hb.2
  · rcases hq with hq | hq
    · exact .inl hq
    · exact .inr (.inl hq.1)
theorem flat_any {V V' : View} {x : VV} {v : Value} (h : VR V x v) : flatV x = true → VR V' x v := by
  induction h using VR.rec (motive_2 := fun xs vs _ => flatL xs = true → VL V' xs vs) with
  | sc _ h => intro _; exact .sc _ h
  | agg cs ps _ ih => intro hx; exact .agg _ _ (ih hx)
  | tup cs ps _ ih => intro hx; exact .tup _ _ (ih hx)
  | any => intro hx; cases hx
  | tnil => intro hx; cases hx
  | tree => intro hx; cases hx
  | tptr => intro hx; cases hx
  | ref => intro hx; cases hx
  | ptr => intro hx; cases hx
  | clo => intro hx; cases hx
  | nil => exact .nil
  | cons x v xs vs _ _ ih ihs =>
    rename_i hx
    simp only [flatL, Bool.and_eq_true] at hx
    exact .cons _ _ _ _ (ih hx.1) (ihs hx.2)
theorem VR.ofBare {V' : View} {G : Nat → Prop} {P : Heap} {x : VV} {v : Value} (hF : ∀ b, G b → V'.F b ∧ V'.P[b]? = P[b]?) (h : VR (bare G P) x v) : VR V' x v := by
  induction h using VR.rec (motive_2 := fun xs vs _ => VL V' xs vs) with
  | any => exact .any _
  | sc _ h => exact .sc _ h
  | agg cs ps _ ih => exact .agg _ _ ih
  | tup cs ps _ ih => exact .tup _ _ ih
  | tnil k hk => exact .tnil k hk
  | tree es k b o c r e p hFb hb ho hc he hk _ ih => exact .tree es k b o c r e p (hF _ hFb).1 (by rw [(hF _ hFb).2]; exact hb) ho hc he hk ih
  | tptr x off b o r e p hFb hb ho _ ih => exact .tptr x off b o r e p (hF _ hFb).1 (by rw [(hF _ hFb).2]; exact hb) ho ih
  | ref b g o n c a n' c' hlt hg ha hq => exact absurd hlt (Nat.not_lt_zero _)
  | ptr b g j off a hlt hg ha hq => exact absurd hlt (Nat.not_lt_zero _)
  | clo f caps ps _ ih => exact .clo _ _ _ ih
  | nil => exact .nil
  | cons x v xs vs _ _ ih ihs => exact .cons _ _ _ _ ih ihs
theorem tstep_sound {V : View} (hS : SR V lo lop) {f lop' : Nat} (hlop : lop' ≤ V.P.length) {args : List VV} {pargs : List Value} {G : Nat → Prop} (hG : ∀ b, G b → b < V.P.length) (hl : VL (bare G V.P) args pargs) {K : VV → Prop} (h : tstep f args K) :
    ∃ P' pv r, pmCall f pargs lop' V.P = some (pv, P') ∧ V.P <+: P' ∧ VR (bare (fun q => G q ∨ (V.P.length ≤ q ∧ q < P'.length)) P') r pv ∧ pureV r = true ∧ K r := by
  unfold tstep tk at h
  split at h
  · rename_i r hr
    obtain ⟨h1, h2, h3⟩ := vT_spec hr
    obtain ⟨P', pv, h4, h5, h6⟩ := h3 G V.P pargs lop' hG hl hlop
    exact ⟨P', pv, r, h4, h5, h6, res_pure r h2, h⟩
  · cases h
theorem vcallP_sound {V : View} (hS : SR V lo lop) {f : Nat} {args : List VV} {pargs : List Value} (hl : VL V args pargs) {q : Bool} {K : VV → VHeap → Prop} (h : vcallP f args (if q then V.H.length else lo) V.H K) : StepOk lo lop V (pmCall f pargs (if q then V.P.length else lop) V.P) K := by
  have hlq : (if q = true then V.P.length else lop) ≤ V.P.length := by split; exact Nat.le_refl _; exact hS.lol
  unfold vcallP at h
  split at h
  · cases q with
    | false => exact h V lop pargs rfl hS hl
    | true =>
      have hS' : SR V V.H.length V.P.length := ⟨hS.row, fun b g es e hb => ⟨(hS.wr b g es e hb).1, fun hl => by have := (List.getElem?_eq_some_iff.1 hb).1; omega⟩, hS.inj, hS.fr, Nat.le_refl _, hS.bas⟩
      obtain ⟨pv, V', r, g1, g3, g4, g5, g6⟩ := h V V.P.length pargs rfl hS' hl
      refine ⟨pv, V', r, g1, ⟨g3.row, fun b g es e hb => ⟨(g3.wr b g es e hb).1, fun hlb => ?_⟩, g3.inj, g3.fr, Nat.le_trans hS.lol g4.plen, g3.bas⟩, { g4.toUp with keep := fun p hp _ => g4.keep p hp fun b g es e hb hlb => ?_, fnew := g4.fnew }, g5, g6⟩
      · rcases Nat.lt_or_ge (V'.m b) V.P.length with hlt | hge
        · obtain ⟨g0, es0, w0, k1, k2, k3⟩ := g4.old b g es e true hb hlt
          have := k3 rfl
          subst this
          rw [k2]
          exact (hS.wr _ _ _ _ k1).2 hlb
        · exact Nat.le_trans hS.lol hge
      · have := (List.getElem?_eq_some_iff.1 hb).1
        have hlb : V.H.length ≤ b := hlb
        omega
  · split at h
    · rename_i hp
      obtain ⟨P', pv, r, g1, g2, g3, g4, g5⟩ := tstep_sound hS (lop' := if q = true then V.P.length else lop) hlq (G := V.F) hS.fr (VL.pure (V := V) (V' := bare V.F V.P) (fun b hb => ⟨hb, rfl⟩) hl hp) h
      obtain ⟨k1, k2⟩ := prefix_eff hS g2
      exact ⟨pv, _, r, g1, k1, k2, g3.ofBare (fun b hb => ⟨hb, rfl⟩), g5⟩
    · split at h
      case h_2 => cases h
      rename_i args' hfz
      unfold tstep tk at h
      split at h
      case h_2 => cases h
      rename_i r hr
      obtain ⟨h1, h2, h3⟩ := vT_spec hr
      split at h
      · rename_i hfl
        have hl' := fzL_sound hS (G := (· < V.P.length)) (fun q hq => hS.fr q hq) hl hfz (fun i _ g es e w hb => hS.mlt hb)
        obtain ⟨P', pv, g1, g2, g3⟩ := h3 _ V.P pargs _ (fun _ h => h) hl' hlq
        obtain ⟨k1, k2⟩ := prefix_eff hS g2
        exact ⟨pv, _, r, g1, k1, k2, flat_any g3 hfl, h⟩
      · obtain ⟨k1, k2, k3, k4, k5, k6⟩ := freezeAll_sound (args.flatMap (fzIds depth V.H)) hS
        have hl' := fzL_sound hS (G := (V.freezeAll (args.flatMap (fzIds depth V.H))).F) (fun q hq => k2.F q hq) hl hfz k6
        rw [← k4] at hl'
        obtain ⟨P', pv, g1, g2, g3⟩ := h3 _ _ pargs _ k1.fr hl' (by rw [k4]; exact hlq)
        obtain ⟨j1, j2⟩ := prefix_eff k1 g2
        rw [k4] at g1
        refine ⟨pv, _, r, g1, j1, k2.trans j2, g3.ofBare (fun b hb => ⟨hb, rfl⟩), ?_⟩
        show K r (V.freezeAll (args.flatMap (fzIds depth V.H))).H
        rw [k3]
        exact h
def CodeOk (lo lop : Nat) (V : View) (c : PCode) (Q : VQ) (ρp : Env) : Prop :=
  W lop c (fun x ρp' P' => ∃ V' ρ', V'.P = P' ∧ SR V' lo lop ∧ Eff lo V V' ∧ ER V' ρ' ρp' ∧ Q x ρ' V'.H) ρp V.P
theorem wanted_sound {V : View} {ρ : VEnv} {ρp : Env} (hE : ER V ρ ρp) {g : Option (Nat × Bool)} {t : Bool} (h : vwanted g ρ = some t) : wantedP g ρp = some t := by
  unfold vwanted at h
  unfold wantedP
  split at h
  · exact h
  · rename_i t' want
    have ht := hE t'
    split at h
    · rename_i b hb
      obtain ⟨e, _⟩ := vev_sc ht hb
      simp only [e]
      exact h
    · rename_i vs hb
      rw [hb] at ht
      generalize hu : ρp t' = u at ht
      cases ht with
      | tup cs ps hl => simp only [hu]; exact h
    · cases h
theorem koff_sound {V : View} (hS : SR V lo lop) {x y : VV} {u w : Value} (hx : VR V x u) (hy : VR V y w) (h : vkoff V.H x y = true) : koff u w = true := by
  have key : ∀ {z : VV} {v : Value}, VR V z v → (match vblk V.H z with
      | .bad => True
      | .no => blkOf v = none
      | .row i wr => blkOf v = some (V.m i) ∧ ∃ g es e, V.H[i]? = some (.row g es e wr)
      | .old i => ∀ q, blkOf v = some q → ∀ b' g' es e w, V.H[b']? = some (.row g' es e w) → b' ≠ i → V.m b' ≠ q
      | .tree => ∀ b, blkOf v = some b → V.F b) := by
    intro z v hz
    cases hz with
    | any => simp only [vblk]
    | sc v h => cases v <;> first | rfl | cases h | skip
                rename_i a; cases a <;> first | rfl | cases h
    | agg => rfl
    | tup => rfl
    | tnil k hk => rcases hk with rfl | rfl
                   · intro b hb; cases hb
                   · rfl
    | tree es k b o c r e p hF hb ho hc he hk hl =>
      cases es with
      | nil => cases k with
        | nil => exact hk.elim
        | op => intro b' hb'; cases hb'; exact hF
        | cl => intro b' hb'; cases hb'; exact hF
      | cons => intro b' hb'; cases hb'; exact hF
    | tptr x off b o r e p hF hb ho hl => intro b' hb'; cases hb'; exact hF
    | ref b g o n c a n' c' hlt hg ha hq =>
      simp only [vblk]
      cases hr : vrow V.H b g with
      | none => exact fun q h => (by
          cases a with
          | none => cases h
          | some a0 => cases h; exact (hq a0 rfl).2.2)
      | some q =>
        obtain ⟨es, e, wr⟩ := q
        rw [vrow_some] at hr
        obtain ⟨rfl, rfl, rfl⟩ := ha _ _ _ hr
        exact ⟨rfl, g, es, e, hr⟩
    | ptr b g j off a hlt hg ha hq =>
      simp only [vblk]
      cases hr : vrow V.H b g with
      | none => exact fun q h => (by
          cases a with
          | none => cases h
          | some a0 => cases h; exact (hq a0 rfl).2.2)
      | some q =>
        obtain ⟨es, e, wr⟩ := q
        rw [vrow_some] at hr
        have := ha _ _ _ hr
        subst this
        exact ⟨rfl, g, es, e, hr⟩
    | clo => rfl
  have kx := key hx
  have ky := key hy
  unfold vkoff at h
  unfold koff
  cases hbx : vblk V.H x with
  | bad => rw [hbx] at h; have h : false = true := h; cases h
  | no =>
    rw [hbx] at kx
    have kx : blkOf u = none := kx
    rw [kx]
  | old i =>
    rw [hbx] at kx h
    have kx : ∀ q, blkOf u = some q → ∀ b' g' es e w, V.H[b']? = some (.row g' es e w) → b' ≠ i → V.m b' ≠ q := kx
    cases hby : vblk V.H y with
    | bad => rw [hby] at h; have h : false = true := h; cases h
    | no =>
      rw [hby] at ky
      have ky : blkOf w = none := ky
      rw [ky]
      cases blkOf u <;> rfl
    | old j => rw [hby] at h; have h : false = true := h; cases h
    | tree => rw [hby] at h; have h : false = true := h; cases h
    | row j wj =>
      rw [hby] at ky h
      obtain ⟨k3, g2, es2, e2, k4⟩ : blkOf w = some (V.m j) ∧ ∃ g es e, V.H[j]? = some (.row g es e wj) := ky
      have h : (i != j) = true := h
      simp only [bne_iff_ne, ne_eq] at h
      rw [k3]
      cases hu : blkOf u with
      | none => rfl
      | some q =>
        simp only [bne_iff_ne, ne_eq]
        exact fun hm => kx q hu j _ _ _ _ k4 (Ne.symm h) hm.symm
  | row i wi =>
    rw [hbx] at kx h
    obtain ⟨k1, g1, es1, e1, k2⟩ : blkOf u = some (V.m i) ∧ ∃ g es e, V.H[i]? = some (.row g es e wi) := kx
    cases hby : vblk V.H y with
    | bad => rw [hby] at h; have h : false = true := h; cases h
    | no =>
      rw [hby] at ky
      have ky : blkOf w = none := ky
      rw [ky]
      cases blkOf u <;> rfl
    | old j =>
      rw [hby] at ky h
      have ky : ∀ q, blkOf w = some q → ∀ b' g' es e w, V.H[b']? = some (.row g' es e w) → b' ≠ j → V.m b' ≠ q := ky
      have h : (i != j) = true := h
      simp only [bne_iff_ne, ne_eq] at h
      rw [k1]
      cases hw : blkOf w with
      | none => rfl
      | some q =>
        simp only [bne_iff_ne, ne_eq]
        exact fun hm => ky q hw i _ _ _ _ k2 h hm
    | row j wj =>
      rw [hby] at ky h
      obtain ⟨k3, g2, es2, e2, k4⟩ : blkOf w = some (V.m j) ∧ ∃ g es e, V.H[j]? = some (.row g es e wj) := ky
      rw [k1, k3]
      have h : (i != j) = true := h
      simp only [bne_iff_ne, ne_eq] at h ⊢
      exact fun hm => h (hS.inj _ _ _ _ _ _ _ _ _ _ k2 k4 hm)
    | tree =>
      rw [hby] at ky h
      have ky : ∀ b, blkOf w = some b → V.F b := ky
      have h : wi = true := h
      subst h
      cases hw : blkOf w with
      | none => rw [k1]
      | some b =>
        rw [k1]
        simp only [bne_iff_ne, ne_eq]
        exact fun hm => (hS.wr _ _ _ _ k2).1 (by rw [hm]; exact ky b hw)
  | tree =>
    rw [hbx] at kx h
    have kx : ∀ b, blkOf u = some b → V.F b := kx
    cases hby : vblk V.H y with
    | bad => rw [hby] at h; have h : false = true := h; cases h
    | no =>
      rw [hby] at ky
      have ky : blkOf w = none := ky
      rw [ky]
      cases blkOf u <;> rfl
    | tree => rw [hby] at h; have h : false = true := h; cases h
    | old j => rw [hby] at h; have h : false = true := h; cases h
    | row j wj =>
      rw [hby] at ky h
      obtain ⟨k1, g1, es1, e1, k2⟩ : blkOf w = some (V.m j) ∧ ∃ g es e, V.H[j]? = some (.row g es e wj) := ky
      have h : wj = true := h
      subst h
      cases hw : blkOf u with
      | none => rfl
      | some b =>
        rw [k1]
        simp only [bne_iff_ne, ne_eq]
        exact fun hm => (hS.wr _ _ _ _ k2).1 (by rw [← hm]; exact kx b hw)
theorem vstep_sound {V : View} (hS : SR V lo lop) {ρ : VEnv} {ρp : Env} (hE : ER V ρ ρp) {fl : Fl} {q : Bool} {op : POp} {K : VV → VHeap → Prop} (h : vstep fl lo q op ρ V.H K) : StepOk lo lop V (oval lop q op ρp V.P) K := by
  have other : ∀ {v H'}, vop fl lo op ρ V.H = some (v, H') → K v H' → StepOk lo lop V (oval lop q op ρp V.P) K := by
    intro v H' h1 h2
    obtain ⟨pv, V', g1, g2, g3, g4, g5⟩ := vop_sound hS hE (q := q) h1
    exact ⟨pv, V', v, g1, g3, g4, g5, by rw [g2]; exact h2⟩
  unfold vstep at h
  split at h
  · rw [oval_call]
    exact vcallP_sound hS (hE.evs _) h
  · rename_i fv args
    rw [oval_callv]
    have hf := hE.ev fv
    split at h
    · rename_i f caps hfv
      rw [hfv] at hf
      generalize ev ρp fv = u at hf ⊢
      cases hf with
      | clo f caps ps hl =>
        unfold callV
        simp only [List.nil_append]
        exact vcallP_sound hS ((hE.evs args).append hl) h
    · cases h
  · split at h
    · rename_i v H' h1
      exact other h1 h
    · cases h
theorem VS_sound {fl : Fl} {K : VEnv → VHeap → Prop} : ∀ (is : List PI) {V : View} {ρ : VEnv} {ρp : Env}, SR V lo lop → ER V ρ ρp → VS fl lo is K ρ V.H →
    WS lop is (fun ρp' P' => ∃ V' ρ', V'.P = P' ∧ SR V' lo lop ∧ Eff lo V V' ∧ ER V' ρ' ρp' ∧ K ρ' V'.H) ρp V.P
  | [], V, ρ, ρp, hS, hE, h => by
    rw [WS_nil]
    exact ⟨V, ρ, rfl, hS, Eff.refl _ _, hE, h⟩
  | i :: is, V, ρ, ρp, hS, hE, h => by
    unfold VS at h
    rw [WS_of]
    unfold pval
    split at h
    · cases h
    · rename_i hw
      rw [wanted_sound hE hw]
      exact ⟨_, _, rfl, VS_sound is hS (hE.put (.tup [] [] .nil)) h⟩
    · rename_i hw
      rw [wanted_sound hE hw]
      obtain ⟨hcf, h⟩ := h
      have hcf' : i.cf.all (keepsOff ρp) = true := by
        rw [List.all_eq_true] at hcf ⊢
        intro c hc
        exact koff_sound hS (hE.ev c.1) (hE.ev c.2) (hcf c hc)
      simp only [hcf', if_true]
      obtain ⟨pv, V', v, g1, g2, g3, g4, g5⟩ := vstep_sound hS hE h
      refine ⟨pv, V'.P, ?_, ?_⟩
      · unfold oval at g1
        exact g1
      · obtain ⟨ρp'', P'', k1, V'', ρ'', k2, k3, k4, k5, k6⟩ := VS_sound is g2 ((hE.mono g3.toUp).put g4) g5
        exact ⟨ρp'', P'', k1, V'', ρ'', k2, k3, g3.trans k4, k5, k6⟩
theorem thaw_sound : ∀ (ts : List Nat) {V : View} {ρ ρ' : VEnv} {ρp : Env} {H' : VHeap}, SR V lo lop → ER V ρ ρp → thaw ts ρ V.H = some (ρ', H') → ∃ V', V'.P = V.P ∧ V'.H = H' ∧ SR V' lo lop ∧ Eff lo V V' ∧ ER V' ρ' ρp
  | [], V, ρ, ρ', ρp, H', hS, hE, h => by
    cases h
    exact ⟨V, rfl, rfl, hS, Eff.refl _ _, hE⟩
  | t :: ts, V, ρ, ρ', ρp, H', hS, hE, h => by
    unfold thaw at h
    split at h
    case h_2 => cases h
    rename_i v hv
    obtain ⟨k1, k2, k3, k4, k5, k6⟩ := freezeAll_sound (fzIds depth V.H (ρ t)) hS
    have hx := fz_sound hS (G := (V.freezeAll (fzIds depth V.H (ρ t))).F) (fun q hq => k2.F q hq) depth (ρ t) v (ρp t) (hE t) hv k6
    have hx' : VR (V.freezeAll (fzIds depth V.H (ρ t))) v (ρp t) := hx.ofBare (fun b hb => ⟨hb, by rw [k4]⟩)
    rw [← k3] at h
    obtain ⟨V', g1, g2, g3, g4, g5⟩ := thaw_sound ts (ρp := ρp) k1 (by
      have e := (hE.mono k2.toUp).put (d := some t) hx'
      have ee : put ρp (some t) (ρp t) = ρp := by
        funext k
        simp only [put]
        split
        · rename_i hk; rw [hk]
        · rfl
      rw [ee] at e
      exact e) h
    exact ⟨V', g1.trans k4, g2, g3, k2.trans g4, g5⟩
theorem gh_sound {V : View} (hS : SR V lo lop) {ρ : VEnv} {ρp : Env} (hE : ER V ρ ρp) {K : VEnv → VHeap → Prop} (h : gh K ρ V.H) : ∃ V' ρ', V'.P = V.P ∧ SR V' lo lop ∧ Eff lo V V' ∧ ER V' ρ' ρp ∧ K ρ' V'.H := by
  obtain ⟨ts, ρ', H', h1, h2⟩ := h
  obtain ⟨V', g1, g2, g3, g4, g5⟩ := thaw_sound ts hS hE h1
  exact ⟨V', ρ', g1, g3, g4, g5, by rw [g2]; exact h2⟩
theorem belowL_mem {k : Nat} {es : List VV} : belowL k es = true ↔ ∀ x ∈ es, below k x = true := by
  induction es with
  | nil => simp [belowL]
  | cons x xs ih => simp [belowL, ih]
theorem belowL_flat {k : Nat} {es : List VV} (h : belowL k es = true) : belowL k (es.flatMap vcells) = true := by
  rw [belowL_mem] at h ⊢
  intro x hx
  obtain ⟨y, hy, hxy⟩ := List.mem_flatMap.1 hx
  have := h y hy
  unfold vcells at hxy
  split at hxy
  · exact belowL_mem.1 (by simpa [below] using this) x hxy
  · rw [List.mem_singleton] at hxy; subst hxy; exact this
theorem below_cells {k : Nat} {x : VV} (h : below k x = true) : belowL k (vcells x) = true := by
  have := belowL_flat (k := k) (es := [x]) (by simp [belowL, h])
  simpa using this
def View.trunc (V : View) (k : Nat) : View := { V with H := V.H.take k }
theorem VR.trunc {V : View} {k : Nat} (hk : k ≤ V.H.length) {x : VV} {v : Value} (h : VR V x v) : PM.below k x = true → VR (V.trunc k) x v := by
  have he : ∀ {b : Nat}, b < k → ∀ y, (V.trunc k).H[b]? = some y → V.H[b]? = some y := fun hbk y hy => by
    have : (V.H.take k)[_]? = some y := hy
    rw [List.getElem?_take, if_pos hbk] at this
    exact this
  have hT : ∀ {b : Nat} {y : VBlk}, (V.trunc k).H[b]? = some y → V.H[b]? = some y := fun {b y} hy => by
    have h : (V.H.take k)[b]? = some y := hy
    rw [List.getElem?_take] at h
    split at h
    · exact h
    · cases h
  induction h using VR.rec (motive_2 := fun xs vs _ => belowL k xs = true → VL (V.trunc k) xs vs) with
  | any => intro _; exact .any _
  | sc _ h => intro _; exact .sc _ h
  | agg cs ps _ ih => intro hb; exact .agg _ _ (ih hb)
  | tup cs ps _ ih => intro hb; exact .tup _ _ (ih hb)
  | tnil k hk => intro _; exact .tnil k hk
  | tree es k b o c r e p hFb hbl ho hc he hk' _ ih => intro hb; exact .tree es k b o c r e p hFb hbl ho hc he hk' (ih (belowL_flat hb))
  | tptr x off b o r e p hFb hbl ho _ ih => intro hb; exact .tptr x off b o r e p hFb hbl ho (ih (below_cells hb))
  | ref b g o n c a n' c' hlt hg ha hq =>
    intro hb
    have hbk : b < k := by simpa [PM.below] using hb
    exact .ref b g o n c a n' c' (by show b < (V.H.take k).length; simp; omega) (fun g' es e w hr => hg _ _ _ _ (he hbk _ hr)) (fun es e w hr => ha _ _ _ (he hbk _ hr)) fun a0 h => ⟨(hq a0 h).1, (hq a0 h).2.1, fun b' g' es e w hr => (hq a0 h).2.2 b' g' es e w (hT hr)⟩
  | ptr b g j off a hlt hg ha hq =>
    intro hb
    have hbk : b < k := by simpa [PM.below] using hb
    exact .ptr b g j off a (by show b < (V.H.take k).length; simp; omega) (fun g' es e w hr => hg _ _ _ _ (he hbk _ hr)) (fun es e w hr => ha _ _ _ (he hbk _ hr)) fun a0 h => ⟨(hq a0 h).1, (hq a0 h).2.1, fun b' g' es e w hr => (hq a0 h).2.2 b' g' es e w (hT hr)⟩
  | clo f caps ps _ ih => intro hb; exact .clo _ _ _ (ih hb)
  | nil => exact .nil
  | cons x v xs vs _ _ ih ihs =>
    rename_i hb
    simp only [belowL, Bool.and_eq_true] at hb
    exact .cons _ _ _ _ (ih hb.1) (ihs hb.2)
theorem VL.trunc {V : View} {k : Nat} (hk : k ≤ V.H.length) {xs : List VV} {vs : List Value} (h : VL V xs vs) (hb : belowL k xs = true) : VL (V.trunc k) xs vs := by
  induction xs generalizing vs with
  | nil => cases h; exact .nil
  | cons x xs ih => cases h with
    | cons _ v _ vs h hs =>
      simp only [belowL, Bool.and_eq_true] at hb
      exact .cons _ _ _ _ (h.trunc hk hb.1) (ih hs hb.2)
theorem trunc_sound {V V' : View} (hS : SR V' lo lop) {ρ : VEnv} {ρp : Env} (hE : ER V' ρ ρp) (hx : Eff lo V V') (hr : rowsBelow V.H.length (V'.H.take V.H.length) = true) :
    SR (V'.trunc V.H.length) lo lop ∧ Eff lo V (V'.trunc V.H.length) ∧ ER (V'.trunc V.H.length) (scrubE V.H.length ρ) ρp := by
  have hk := hx.len
  have get : ∀ {b : Nat} {y : VBlk}, (V'.trunc V.H.length).H[b]? = some y → V'.H[b]? = some y := by
    intro b y h
    have h : (V'.H.take V.H.length)[b]? = some y := h
    rw [List.getElem?_take] at h
    split at h
    · exact h
    · cases h
  refine ⟨⟨fun b g es e w hb => ?_, fun b g es e hb => hS.wr b g es e (get hb), fun a b g es e w g' es' e' w' ha hb hm => hS.inj a b _ _ _ _ _ _ _ _ (get ha) (get hb) hm, hS.fr, hS.lol, hS.bas⟩,
    { F := hx.F, P := hx.P, len := by show V.H.length ≤ (V'.H.take V.H.length).length; simp; omega, row := fun b g es e w hlt hb => hx.row b g es e w hlt (get hb), bas := hx.bas, plen := hx.plen, old := fun b g es e w hb hm => hx.old b g es e w (get hb) hm, keep := hx.keep, fnew := hx.fnew }, fun t => ?_⟩
  · obtain ⟨r, p, h1, h2, h3⟩ := hS.row b g es e w (get hb)
    refine ⟨r, p, h1, h2, h3.trunc hk (belowL_flat ?_)⟩
    have := List.all_eq_true.1 hr _ (List.mem_of_getElem? (show (V'.H.take V.H.length)[b]? = some _ from hb))
    exact this
  · unfold scrubE scrub
    split
    · rename_i hb
      exact (hE t).trunc hk hb
    · exact .any _
theorem W_loop_step {c : PCode} {Q : Ex → Env → Heap → Prop} {ρ : Env} {H : Heap} (h : W lop c (loopQ (fun ρ' H' => W lop (.loop c) Q ρ' H') Q) ρ H) : W lop (.loop c) Q ρ H := by
  obtain ⟨x, ρ', H', h1, h2⟩ := h
  unfold W
  rw [code_loop, h1]
  cases x with
  | normal =>
    obtain ⟨y, ρ'', H'', h3, h4⟩ := h2
    exact ⟨y, ρ'', H'', h3, h4⟩
  | exit i => exact ⟨_, _, _, rfl, h2⟩
  | ret => exact ⟨_, _, _, rfl, h2⟩
theorem VW_sound {fl : Fl} : ∀ (c : PCode) {V : View} {ρ : VEnv} {ρp : Env} {Q : VQ}, SR V lo lop → ER V ρ ρp → VW fl lo c Q ρ V.H → CodeOk lo lop V c Q ρp
  | .skip, V, ρ, ρp, Q, hS, hE, h => by
    unfold CodeOk
    rw [W_skip]
    exact ⟨V, ρ, rfl, hS, Eff.refl _ _, hE, h⟩
  | .exit id, V, ρ, ρp, Q, hS, hE, h => by
    unfold CodeOk
    rw [W_exit]
    exact ⟨V, ρ, rfl, hS, Eff.refl _ _, hE, h⟩
  | .ret, V, ρ, ρp, Q, hS, hE, h => by
    unfold CodeOk
    rw [W_ret]
    exact ⟨V, ρ, rfl, hS, Eff.refl _ _, hE, h⟩
  | .reg ops, V, ρ, ρp, Q, hS, hE, h => by
    unfold CodeOk
    rw [W_reg]
    exact VS_sound ops hS hE h
  | .seq a b, V, ρ, ρp, Q, hS, hE, h => by
    unfold CodeOk
    rw [W_seq]
    refine (VW_sound a hS hE h).mono ?_
    rintro x ρp' P' ⟨V', ρ', rfl, g2, g3, g4, g5⟩
    cases x with
    | normal =>
      refine (VW_sound b g2 g4 g5).mono ?_
      rintro y ρp'' P'' ⟨V'', ρ'', k1, k2, k3, k4, k5⟩
      exact ⟨V'', ρ'', k1, k2, g3.trans k3, k4, k5⟩
    | exit i => exact ⟨V', ρ', rfl, g2, g3, g4, g5⟩
    | ret => exact ⟨V', ρ', rfl, g2, g3, g4, g5⟩
  | .cond c a b, V, ρ, ρp, Q, hS, hE, h => by
    unfold CodeOk
    rw [W_cond]
    unfold VW at h
    split at h
    · rename_i t hc
      obtain ⟨e, _⟩ := vev_sc (hE.ev c) hc
      refine ⟨t, e, fun ht => ?_, fun ht => ?_⟩
      · rw [if_pos ht] at h
        exact VW_sound a hS hE h
      · rw [if_neg (by simp [ht])] at h
        exact VW_sound b hS hE h
    · cases h
  | .block id a, V, ρ, ρp, Q, hS, hE, h => by
    unfold CodeOk
    rw [W_block]
    refine (VW_sound a hS hE h).mono ?_
    rintro x ρp' P' ⟨V', ρ', rfl, g2, g3, g4, g5⟩
    cases x with
    | normal => exact ⟨V', ρ', rfl, g2, g3, g4, g5⟩
    | exit i =>
      rw [blkQ_exit]
      have g5 : if i = id then Q .normal ρ' V'.H else Q (.exit i) ρ' V'.H := g5
      split at g5
      · rename_i hi
        rw [if_pos hi]
        exact ⟨V', ρ', rfl, g2, g3, g4, g5⟩
      · rename_i hi
        rw [if_neg hi]
        exact ⟨V', ρ', rfl, g2, g3, g4, g5⟩
    | ret => exact ⟨V', ρ', rfl, g2, g3, g4, g5⟩
  | .loop a, V, ρ, ρp, Q, hS, hE, h => by
    obtain ⟨n, h⟩ := h
    have key : ∀ n {V : View} {ρ : VEnv} {ρp : Env}, SR V lo lop → ER V ρ ρp → loopN (VW fl lo a) (fun x => gh (Q x)) n ρ V.H → CodeOk lo lop V (.loop a) Q ρp := by
      intro n
      induction n with
      | zero => intro V ρ ρp _ _ h; cases h
      | succ n ih =>
        intro V ρ ρp hS hE h
        unfold CodeOk
        refine W_loop_step ?_
        refine (VW_sound a hS hE h).mono ?_
        rintro x ρp' P' ⟨V', ρ', rfl, g2, g3, g4, g5⟩
        cases x with
        | normal =>
          rcases g5 with g5 | ⟨g5, g6⟩
          · refine (ih g2 g4 g5).mono ?_
            rintro y ρp'' P'' ⟨V'', ρ'', k1, k2, k3, k4, k5⟩
            exact ⟨V'', ρ'', k1, k2, g3.trans k3, k4, k5⟩
          · obtain ⟨t1, t2, t3⟩ := trunc_sound g2 g4 g3 g5
            refine (ih t1 t3 g6).mono ?_
            rintro y ρp'' P'' ⟨V'', ρ'', k1, k2, k3, k4, k5⟩
            exact ⟨V'', ρ'', k1, k2, t2.trans k3, k4, k5⟩
        | exit i =>
          obtain ⟨V'', ρ'', k1, k2, k3, k4, k5⟩ := gh_sound g2 g4 g5
          exact ⟨V'', ρ'', k1, k2, g3.trans k3, k4, k5⟩
        | ret =>
          obtain ⟨V'', ρ'', k1, k2, k3, k4, k5⟩ := gh_sound g2 g4 g5
          exact ⟨V'', ρ'', k1, k2, g3.trans k3, k4, k5⟩
    exact key n hS hE h
theorem result_sound {V : View} (hS : SR V lo lop) {ρ : VEnv} {ρp : Env} (hE : ER V ρ ρp) {res : List PRes} {v : VV} (h : vresult res ρ V.H = some v) : ∃ pv, presult res ρp V.P = some pv ∧ VR V v pv := by
  have one : ∀ {r : PRes} {v : VV}, vres1 ρ V.H r = some v → ∃ pv, pres1 ρp V.P r = some pv ∧ VR V v pv := by
    intro r v h
    cases r with
    | tmp t => cases h; exact ⟨_, rfl, hE t⟩
    | cell t agg size => exact load_sound hS (hE t) h
  have all : ∀ {rs : List PRes} {vs : List VV}, vresAll ρ V.H rs = some vs → ∃ ps, presAll ρp V.P rs = some ps ∧ VL V vs ps := by
    intro rs
    induction rs with
    | nil => intro vs h; cases h; exact ⟨[], rfl, .nil⟩
    | cons r rs ih =>
      intro vs h
      unfold vresAll at h
      split at h
      · rename_i v vs' h1 h2
        cases h
        obtain ⟨pv, k1, k2⟩ := one h1
        obtain ⟨ps, k3, k4⟩ := ih h2
        exact ⟨pv :: ps, by unfold presAll; rw [k1, k3], .cons _ _ _ _ k2 k4⟩
      · cases h
  unfold vresult at h
  split at h
  · rename_i v' hv
    cases h
    obtain ⟨ps, k1, k2⟩ := all hv
    cases k2 with
    | cons _ pv _ _ hx hxs =>
      cases hxs
      exact ⟨pv, by unfold presult; rw [k1], hx⟩
  · rename_i vs hne hv
    cases h
    obtain ⟨ps, k1, k2⟩ := all hv
    refine ⟨.tuple ps.toArray, ?_, .tup _ _ k2⟩
    unfold presult
    rw [k1]
    split
    · rename_i pv he
      injection he with he
      subst he
      cases k2 with
      | cons x _ _ _ hx hxs => cases hxs; exact absurd rfl (hne x)
    · rename_i he
      injection he with he
      rw [he]
    · rename_i he; cases he
  · cases h
theorem penv_rel {V : View} {args : List VV} {pargs : List Value} (h : VL V args pargs) : ER V (vpenv args) (penv pargs) := by
  intro t
  unfold vpenv penv
  rw [List.getD_eq_getElem?_getD, List.getD_eq_getElem?_getD]
  cases hx : args[t]? with
  | none =>
    have : pargs[t]? = none := by
      rw [List.getElem?_eq_none_iff] at hx ⊢
      rw [h.length]
      exact hx
    rw [this]
    exact .tup [] [] .nil
  | some x =>
    obtain ⟨v, h1, h2⟩ := h.get hx
    rw [h1]
    exact h2
theorem VRaw.walk {f : Nat} {pf : PFunc} {args : List VV} {H : VHeap} {K : VV → VHeap → Prop} (fl : Fl) (ht : tab f = some pf) (ha : args.length ≤ pf.ntmps) (h : VW fl lo pf.body (vretQ pf.res K) (vpenv args) H) : VRaw f args lo H K := by
  intro V lop pargs hH hS hl
  subst hH
  obtain ⟨x, ρp', P', h1, V', ρ', rfl, g2, g3, g4, g5⟩ := VW_sound pf.body hS (penv_rel hl) h
  have key : ∃ pv P'', pmCall f pargs lop V.P = some (pv, P'') ∧ P'' = V'.P ∧ ∃ r, VR V' r pv ∧ K r V'.H := by
    refine call_W ht (by rw [hl.length]; exact ha) ?_
    refine ⟨x, ρp', V'.P, h1, ?_⟩
    cases x with
    | exit i => exact g5.elim
    | normal =>
      simp only [vretQ, vresK] at g5
      split at g5
      · rename_i v hv
        obtain ⟨pv, k2, k3⟩ := result_sound g2 g4 hv
        exact ⟨pv, k2, rfl, v, k3, g5⟩
      · cases g5
    | ret =>
      simp only [vretQ, vresK] at g5
      split at g5
      · rename_i v hv
        obtain ⟨pv, k2, k3⟩ := result_sound g2 g4 hv
        exact ⟨pv, k2, rfl, v, k3, g5⟩
      · cases g5
  obtain ⟨pv, P'', k1, rfl, r, k2, k3⟩ := key
  exact ⟨pv, V', r, k1, g2, g3, k2, k3⟩
theorem VT.walk {f : Nat} {pf : PFunc} {args : List VV} {r : VV} (fl : Fl) (ht : tab f = some pf) (ha : args.length ≤ pf.ntmps) (h : VW fl 0 pf.body (vretQ pf.res fun v H => fz depth H v = some r) (vpenv args) []) : VT f args r := by
  intro F P pargs lop hF hl hlop
  have hS : SR (bare F P) 0 lop := ⟨fun b g es e w hb => by simp [bare] at hb, fun b g es e hb => by simp [bare] at hb, fun a b g es e w g' es' e' w' ha => by simp [bare] at ha, hF, hlop, Nat.zero_le _⟩
  obtain ⟨x, ρp', P', h1, V', ρ', rfl, g2, g3, g4, g5⟩ := VW_sound pf.body hS (penv_rel hl) h
  have fin : ∀ {v : VV} {pv : Value}, VR V' v pv → fz depth V'.H v = some r → VR (bare (fun q => F q ∨ (P.length ≤ q ∧ q < V'.P.length)) V'.P) r pv := by
    intro v pv hv hf
    refine fz_sound g2 (fun q hq => ?_) depth v r pv hv hf fun i _ g es e w hr => ?_
    · rcases g3.fnew q hq with h | h | ⟨b, g, es, e, w, h, _⟩
      · exact .inl h
      · exact .inr ⟨h, g2.fr q hq⟩
      · simp [bare] at h
    · rcases Nat.lt_or_ge (V'.m i) P.length with hlt | hge
      · obtain ⟨g0, es0, w0, k1, _⟩ := g3.old i g es e w hr hlt
        simp [bare] at k1
      · exact .inr ⟨hge, g2.mlt hr⟩
  have key : ∃ pv P'', pmCall f pargs lop P = some (pv, P'') ∧ P'' = V'.P ∧ VR (bare (fun q => F q ∨ (P.length ≤ q ∧ q < V'.P.length)) V'.P) r pv := by
    refine call_W ht (by rw [hl.length]; exact ha) ?_
    refine ⟨x, ρp', V'.P, h1, ?_⟩
    cases x with
    | exit i => exact g5.elim
    | normal =>
      simp only [vretQ, vresK] at g5
      split at g5
      · rename_i v hv
        obtain ⟨pv, k2, k3⟩ := result_sound g2 g4 hv
        exact ⟨pv, k2, rfl, fin k3 g5⟩
      · cases g5
    | ret =>
      simp only [vretQ, vresK] at g5
      split at g5
      · rename_i v hv
        obtain ⟨pv, k2, k3⟩ := result_sound g2 g4 hv
        exact ⟨pv, k2, rfl, fin k3 g5⟩
      · cases g5
  obtain ⟨pv, P'', k1, rfl, k3⟩ := key
  refine ⟨V'.P, pv, k1, ?_, k3⟩
  refine ⟨V'.P.drop P.length, List.ext_getElem? fun i => ?_⟩
  rcases Nat.lt_or_ge i P.length with hi | hi
  · rw [List.getElem?_append_left hi]
    exact (g3.keep i hi fun b g es e hb => by simp [bare] at hb).symm
  · rw [List.getElem?_append_right hi, List.getElem?_drop, show P.length + (i - P.length) = i by omega]
end
end Go.PM
/- The logic's rules, in words that a rewriting takes. -/
namespace Go.PM
section
variable {fl : Fl} {lo : Nat} {ρ : VEnv} {H : VHeap} {Q : VQ} {K : VEnv → VHeap → Prop} {k : VV → VHeap → Prop} {a b : PCode} {d : Option Nat} {is : List PI} {q : Bool} {op : POp}
def vcont (fl : Fl) (lo : Nat) (d : Option Nat) (is : List PI) (K : VEnv → VHeap → Prop) (ρ : VEnv) : VV → VHeap → Prop := fun v H' => VS fl lo is K (vput ρ d v) H'
def vson (r : Option (VV × VHeap)) (k : VV → VHeap → Prop) : Prop := match r with
  | some (v, H') => k v H'
  | none => False
theorem vcont_app {v : VV} {H' : VHeap} : vcont fl lo d is K ρ v H' = VS fl lo is K (vput ρ d v) H' := rfl
theorem von_some {v : VV} : von (some v) H k = k v H := rfl
theorem vson_some {v : VV} {H' : VHeap} : vson (some (v, H')) k = k v H' := rfl
theorem tk_some {r : VV} {K : VV → Prop} : tk (some r) K = K r := rfl
theorem VW_skip : VW fl lo .skip Q ρ H = Q .normal ρ H := rfl
theorem VW_exit {i : Nat} : VW fl lo (.exit i) Q ρ H = Q (.exit i) ρ H := rfl
theorem VW_ret : VW fl lo .ret Q ρ H = Q .ret ρ H := rfl
theorem VW_reg {ops : List PI} : VW fl lo (.reg ops) Q ρ H = VS fl lo ops (Q .normal) ρ H := rfl
theorem VW_seq : VW fl lo (.seq a b) Q ρ H = VW fl lo a (onNormal (VW fl lo b Q) Q) ρ H := rfl
theorem VW_block {i : Nat} : VW fl lo (.block i a) Q ρ H = VW fl lo a (onExit i Q) ρ H := rfl
theorem VW_cond {c : Operand} {t : Bool} (h : vev ρ c = .sc (.bool t)) : VW fl lo (.cond c a b) Q ρ H = if t = true then VW fl lo a Q ρ H else VW fl lo b Q ρ H := by
  simp only [VW, h]
theorem onNormal_normal : onNormal K Q .normal = K := rfl
theorem onNormal_exit {i : Nat} : onNormal K Q (.exit i) = Q (.exit i) := rfl
theorem onNormal_ret : onNormal K Q .ret = Q .ret := rfl
theorem onExit_normal {i : Nat} : onExit i Q .normal = Q .normal := rfl
theorem onExit_exit {i j : Nat} : onExit i Q (.exit j) ρ H = if j = i then Q .normal ρ H else Q (.exit j) ρ H := rfl
theorem onExit_ret {i : Nat} : onExit i Q .ret = Q .ret := rfl
theorem vretQ_normal {res : List PRes} {R : VV → VHeap → Prop} : vretQ res R .normal ρ H = vresK R (vresult res ρ H) H := rfl
theorem vretQ_ret {res : List PRes} {R : VV → VHeap → Prop} : vretQ res R .ret ρ H = vresK R (vresult res ρ H) H := rfl
theorem vresK_some {R : VV → VHeap → Prop} {v : VV} : vresK R (some v) H = R v H := rfl
theorem vres_one {t : Nat} : vresult [.tmp t] ρ H = some (ρ t) := rfl
theorem vres_two {t u : Nat} : vresult [.tmp t, .tmp u] ρ H = some (.tup [ρ t, ρ u]) := rfl
theorem vres_three {t u v : Nat} : vresult [.tmp t, .tmp u, .tmp v] ρ H = some (.tup [ρ t, ρ u, ρ v]) := rfl
theorem vres_none : vresult [] ρ H = some (.tup []) := rfl
theorem VS_nil : VS fl lo [] K ρ H = K ρ H := rfl
theorem VS_op : VS fl lo (⟨d, op, none, q, []⟩ :: is) K ρ H = vstep fl lo q op ρ H (vcont fl lo d is K ρ) := by
  simp only [VS, vwanted, List.all_nil, true_and]
  rfl
theorem VS_cf {c : Operand × Operand} {cs : List (Operand × Operand)} : VS fl lo (⟨d, op, none, q, c :: cs⟩ :: is) K ρ H = ((c :: cs).all (vkeeps ρ H) = true ∧ vstep fl lo q op ρ H (vcont fl lo d is K ρ)) := by
  simp only [VS, vwanted]
  rfl
theorem VS_guard {t : Nat} {want x : Bool} {cf : List (Operand × Operand)} (h : ρ t = .sc (.bool x)) : VS fl lo (⟨d, op, some (t, want), q, cf⟩ :: is) K ρ H =
    if (x == want) = true then (cf.all (vkeeps ρ H) = true ∧ vstep fl lo q op ρ H (vcont fl lo d is K ρ)) else VS fl lo is K (vput ρ d vundef) H := by
  simp only [VS, vwanted, h]
  cases (x == want) <;> rfl
theorem VS_yes {t : Nat} {want : Bool} (h : ρ t = .sc (.bool want)) : VS fl lo (⟨d, op, some (t, want), q, []⟩ :: is) K ρ H = vstep fl lo q op ρ H (vcont fl lo d is K ρ) := by
  rw [VS_guard h]
  simp
theorem VS_no {t : Nat} {want : Bool} {cf : List (Operand × Operand)} (h : ρ t = .sc (.bool (!want))) : VS fl lo (⟨d, op, some (t, want), q, cf⟩ :: is) K ρ H = VS fl lo is K (vput ρ d vundef) H := by
  rw [VS_guard h]
  cases want <;> rfl
theorem VW_true {c : Operand} (h : vev ρ c = .sc (.bool true)) : VW fl lo (.cond c a b) Q ρ H = VW fl lo a Q ρ H := by
  rw [VW_cond h, if_pos rfl]
theorem VW_false {c : Operand} (h : vev ρ c = .sc (.bool false)) : VW fl lo (.cond c a b) Q ρ H = VW fl lo b Q ρ H := by
  rw [VW_cond h, if_neg (by decide)]
theorem VS_guard_un {t : Nat} {want : Bool} {cf : List (Operand × Operand)} (h : ρ t = vundef) : VS fl lo (⟨d, op, some (t, want), q, cf⟩ :: is) K ρ H = VS fl lo is K (vput ρ d vundef) H := by
  simp only [VS, vwanted, h, vundef]
theorem vput_app {d t : Nat} {v : VV} : vput ρ (some d) v t = if t = d then v else ρ t := rfl
theorem vput_none {v : VV} : vput ρ none v = ρ := rfl
theorem vev_tmp {t : Nat} : vev ρ (.tmp t) = ρ t := rfl
theorem vev_const {v : Value} : vev ρ (.const v) = inj v := rfl
theorem vev_func {f : Nat} : vev ρ (.func f) = .clo f [] := rfl
theorem inj_int {k : IntKind} {n : Int} : inj (.int k n) = .sc (.int k n) := rfl
theorem inj_bool {t : Bool} : inj (.bool t) = .sc (.bool t) := rfl
theorem inj_str {s : ByteArray} : inj (.string s) = .sc (.string s) := rfl
theorem inj_nil : inj (.slice none 0 0) = .tree [] .nil := rfl
theorem inj_agg {cs : Array Value} : inj (.agg cs) = .agg (cs.toList.map inj1) := rfl
theorem inj1_int {k : IntKind} {n : Int} : inj1 (.int k n) = .sc (.int k n) := rfl
theorem inj1_bool {t : Bool} : inj1 (.bool t) = .sc (.bool t) := rfl
theorem inj1_str {s : ByteArray} : inj1 (.string s) = .sc (.string s) := rfl
theorem inj1_nil : inj1 (.slice none 0 0) = .tree [] .nil := rfl
theorem vst_mv {x : Operand} : vstep fl lo q (.mv x) ρ H k = k (vev ρ x) H := rfl
theorem von_map {r : Option VV} : (match r.map (fun v => (v, H)) with | some (v, H') => k v H' | none => False) = von r H k := by cases r <;> rfl
theorem vst_pick {c x y : Operand} : vstep fl lo q (.pick c x y) ρ H k = von (vpick (vev ρ c) (vev ρ x) (vev ρ y)) H k := von_map
theorem vst_bin {o : BinOp} {x y : Operand} : vstep fl lo q (.bin o x y) ρ H k = von (vsc2 (pbin o) (vev ρ x) (vev ρ y)) H k := von_map
theorem vst_eqb {n : Bool} {x y : Operand} : vstep fl lo q (.eqb n x y) ρ H k = von (vsc2 (eqbV n) (vev ρ x) (vev ρ y)) H k := von_map
theorem vst_isnil {n : Bool} {x : Operand} : vstep fl lo q (.isnil n x) ρ H k = von (visnil n (vev ρ x) H) H k := von_map
theorem vst_eqagg {n : Bool} {ks : List CK} {x y : Operand} : vstep fl lo q (.eqagg n ks x y) ρ H k = von (veqagg n ks (vev ρ x) (vev ρ y)) H k := von_map
theorem vst_un {o : UnOp} {x : Operand} : vstep fl lo q (.un o x) ρ H k = von (vsc1 (pun o) (vev ρ x)) H k := von_map
theorem vst_cvt {o : IntKind} {x : Operand} : vstep fl lo q (.cvt o x) ρ H k = von (vsc1 (cvtV o) (vev ρ x)) H k := von_map
theorem vst_cvs {x : Operand} : vstep fl lo q (.cvs x) ρ H k = von (vsc1 cvsV (vev ρ x)) H k := von_map
theorem vst_ext {x : Operand} {i : Nat} : vstep fl lo q (.ext x i) ρ H k = von (vext i (vev ρ x)) H k := von_map
theorem vst_fld {g : Bool} {off size : Nat} {x : Operand} : vstep fl lo q (.fld g off size x) ρ H k = von (vfld g off size (vev ρ x)) H k := von_map
theorem vst_build {z : List Value} {places : List (Nat × Nat)} {parts : List (Nat × Operand)} : vstep fl lo q (.build z places parts) ρ H k = von ((vfill places (z.map inj1) (parts.map fun (i, x) => (i, vev ρ x))).map .agg) H k := by
  show (match (vfill places (z.map inj1) (parts.map fun (i, x) => (i, vev ρ x))).map fun cs => (VV.agg cs, H) with | some (v, H') => k v H' | none => False) = _
  cases vfill places (z.map inj1) (parts.map fun (i, x) => (i, vev ρ x)) <;> rfl
theorem vst_chk {x : Operand} : vstep fl lo q (.chk x) ρ H k = von (vchk (vev ρ x) H) H k := von_map
theorem vst_faddr {off : Nat} {x : Operand} : vstep fl lo q (.faddr off x) ρ H k = von (vfaddr off (vev ρ x) H) H k := von_map
theorem vst_iaddr {size : Nat} {x i : Operand} : vstep fl lo q (.iaddr size x i) ρ H k = von (viaddr size (vev ρ x) (vev ρ i) H) H k := von_map
theorem vst_sidx {x i : Operand} : vstep fl lo q (.sidx x i) ρ H k = von (vsc2 sidxV (vev ρ x) (vev ρ i)) H k := von_map
theorem vst_ssub {x : Operand} {l h : Option Operand} : vstep fl lo q (.ssub x l h) ρ H k = von (vssub (vev ρ x) (l.map (vev ρ)) (h.map (vev ρ))) H k := von_map
theorem vst_mkfn {f : Nat} {caps : List Operand} : vstep fl lo q (.mkfn f caps) ρ H k = k (.clo f (caps.map (vev ρ))) H := rfl
theorem vst_len {x : Operand} : vstep fl lo q (.len x) ρ H k = von (vlen (vev ρ x) H) H k := von_map
theorem vst_slen {x : Operand} : vstep fl lo q (.slen x) ρ H k = von (vsc1 slenV (vev ρ x)) H k := von_map
theorem vst_min {x y : Operand} : vstep fl lo q (.min x y) ρ H k = von (vsc2 minV (vev ρ x) (vev ρ y)) H k := von_map
theorem vst_max {x y : Operand} : vstep fl lo q (.max x y) ρ H k = von (vsc2 maxV (vev ρ x) (vev ρ y)) H k := von_map
theorem vst_load {g : Bool} {size : Nat} {p : Operand} : vstep fl lo q (.load g size p) ρ H k = von (vload g size (vev ρ p) H) H k := von_map
theorem vst_sub {size : Nat} {x : Operand} {l h m : Option Operand} : vstep fl lo q (.sub size x l h m) ρ H k = von (vsub size (vev ρ x) (l.map (vev ρ)) (h.map (vev ρ)) (m.map (vev ρ)) H) H k := von_map
theorem vst_new {z : List Value} : vstep fl lo q (.new z) ρ H k = vson (if (z.map inj1).all vscal then some (.ptr H.length 0 0 0, H ++ [.row 0 [elemOf (z.map inj1)] z.length true]) else none) k := rfl
theorem vst_box {x : Operand} : vstep fl lo q (.box x) ρ H k = vson (if (vcells (vev ρ x)).all vscal then (if fl.bf then some (.tptr (vev ρ x) 0, H) else some (.ptr H.length 0 0 0, H ++ [.row 0 [vev ρ x] (vcells (vev ρ x)).length true])) else none) k := rfl
theorem vst_make {z : List Value} {bytes : Nat} {l c : Operand} : vstep fl lo q (.make z bytes l c) ρ H k = vson (if (z.map inj1).all vscal then vmake z bytes (vev ρ l) (vev ρ c) H else none) k := rfl
theorem vst_lit {z : List Value} {n : Nat} {parts : List (Nat × Operand)} : vstep fl lo q (.lit z n parts) ρ H k = vson (vlit fl.lr z n (parts.map fun (i, x) => (i, vev ρ x)) H) k := rfl
def vdone (r : Option VHeap) (k : VV → VHeap → Prop) : Prop := match r with
  | some H' => k vundef H'
  | none => False
theorem vdone_some {H' : VHeap} : vdone (some H') k = k vundef H' := rfl
theorem vdone_map {r : Option VHeap} : (match r.map (fun H' => (vundef, H')) with | some (v, H') => k v H' | none => False) = vdone r k := by cases r <;> rfl
theorem vst_store {size : Nat} {p v : Operand} : vstep fl lo q (.store size p v) ρ H k = vdone (vstore lo size (vev ρ p) (vev ρ v) H) k := vdone_map
def vapp (lo size bytes : Nat) (x : VV) (new : Option (List VV)) (H : VHeap) (k : VV → VHeap → Prop) : Prop := match new with
  | some new => vson (vappend lo size bytes x new H) k
  | none => False
theorem vapp_some {size bytes : Nat} {x : VV} {new : List VV} : vapp lo size bytes x (some new) H k = vson (vappend lo size bytes x new H) k := rfl
theorem vst_app {size bytes : Nat} {x y : Operand} : vstep fl lo q (.app size bytes x y) ρ H k = vapp lo size bytes (vev ρ x) (vsource size (vev ρ y) H) H k := by
  show (match (match vsource size (vev ρ y) H with | some new => vappend lo size bytes (vev ρ x) new H | none => none) with | some (v, H') => k v H' | none => False) = _
  cases vsource size (vev ρ y) H <;> rfl
theorem vst_copy {size : Nat} {x y : Operand} : vstep fl lo q (.copy size x y) ρ H k = vson (vcopy lo size (vev ρ x) (vev ρ y) H) k := rfl
theorem vst_clear {z : List Value} {x : Operand} : vstep fl lo q (.clear z x) ρ H k = vdone (vclear lo z (vev ρ x) H) k := vdone_map
theorem vst_call {f : Nat} {args : List Operand} : vstep fl lo q (.call f args) ρ H k = vcallP f (args.map (vev ρ)) (if q then H.length else lo) H k := rfl
noncomputable def vcallv (x : VV) (args : List VV) (lo : Nat) (H : VHeap) (k : VV → VHeap → Prop) : Prop := match x with
  | .clo f caps => vcallP f (args ++ caps) lo H k
  | _ => False
theorem vcallv_clo {f : Nat} {caps args : List VV} : vcallv (.clo f caps) args lo H k = vcallP f (args ++ caps) lo H k := rfl
theorem vst_callv {fv : Operand} {args : List Operand} : vstep fl lo q (.callv fv args) ρ H k = vcallv (vev ρ fv) (args.map (vev ρ)) (if q then H.length else lo) H k := by
  simp only [vstep, vcallv]
  all_goals (cases vev ρ fv <;> rfl)
theorem vst_b2s {x : Operand} : vstep fl lo q (.b2s x) ρ H k = vson (vop fl lo (.b2s x) ρ H) k := rfl
theorem vsc1_sc {f : Value → Option Value} {x : Value} : vsc1 f (.sc x) = (f x).map .sc := rfl
theorem vsc2_sc {f : Value → Value → Option Value} {x y : Value} : vsc2 f (.sc x) (.sc y) = (f x y).map .sc := rfl
theorem vpick_sc {t : Bool} {x y : VV} : vpick (.sc (.bool t)) x y = some (if t = true then x else y) := rfl
theorem vext_tup {vs : List VV} {i : Nat} : vext i (.tup vs) = vs[i]? := rfl
theorem vlen_tree {es : List VV} {t : TK} : vlen (.tree es t) H = some (.sc (.int .i64 es.length)) := rfl
theorem vlen_ref {b g o n c : Nat} {r : List VV × Nat × Bool} (h : vrow H b g = some r) : vlen (.ref b g o n c) H = some (.sc (.int .i64 n)) := by
  simp only [vlen, h, Option.map_some]
theorem vfaddr_t {x : VV} {o off : Nat} : vfaddr off (.tptr x o) H = some (.tptr x (o + off)) := rfl
theorem vchk_t {x : VV} {o : Nat} : vchk (.tptr x o) H = some (.tptr x o) := rfl
theorem vload_t {g : Bool} {size o : Nat} {x : VV} : vload g size (.tptr x o) H = rdCells g size x o := rfl
theorem vload_p {g : Bool} {size b gn j o : Nat} {es : List VV} {e : Nat} {w : Bool} {x : VV} (h : vrow H b gn = some (es, e, w)) (hx : es[j]? = some x) : vload g size (.ptr b gn j o) H = rdCells g size x o := by
  simp only [vload, h, hx]
theorem rd_sc {size : Nat} {v : Value} : rdCells false size (.sc v) 0 = some (.sc v) := rfl
theorem rd_tree {size : Nat} {es : List VV} {t : TK} : rdCells false size (.tree es t) 0 = some (.tree es t) := rfl
theorem rd_ref {size b g o n c : Nat} : rdCells false size (.ref b g o n c) 0 = some (.ref b g o n c) := rfl
theorem rd_clo {size f : Nat} {caps : List VV} : rdCells false size (.clo f caps) 0 = some (.clo f caps) := rfl
theorem rd_fld {size o : Nat} {cs : List VV} : rdCells false size (.agg cs) o = cs[o]? := rfl
theorem rd_all {size : Nat} {cs : List VV} (h : cs.length = size) : rdCells true size (.agg cs) 0 = some (.agg cs) := by
  subst h
  simp [rdCells, vcells]
theorem viaddr_t {size : Nat} {es : List VV} {t : TK} {kk : IntKind} {i : Int} {x : VV} (h0 : 0 ≤ i) (hx : es[i.toNat]? = some x) (hs : (vcells x).length = size) : viaddr size (.tree es t) (.sc (.int kk i)) H = some (.tptr x 0) := by
  simp only [viaddr, h0, hx, hs, if_true]
theorem viaddr_tn {size : Nat} {es : List VV} {t : TK} {kk : IntKind} {i : Nat} {x : VV} (hx : es[i]? = some x) (hs : (vcells x).length = size) : viaddr size (.tree es t) (.sc (.int kk (i : Int))) H = some (.tptr x 0) :=
  viaddr_t (by omega) (by simpa using hx) hs
theorem viaddr_r {size b g o n c : Nat} {kk : IntKind} {i : Int} {es : List VV} {w : Bool} (h : vrow H b g = some (es, size, w)) (h0 : 0 ≤ i) (h1 : i < n) : viaddr size (.ref b g o n c) (.sc (.int kk i)) H = some (.ptr b g (o + i.toNat) 0) := by
  simp only [viaddr, h]
  rw [if_pos ⟨trivial, h0, h1⟩]
theorem viaddr_rn {size b g o n c : Nat} {kk : IntKind} {i : Nat} {es : List VV} {w : Bool} (h : vrow H b g = some (es, size, w)) (h1 : i < n) : viaddr size (.ref b g o n c) (.sc (.int kk (i : Int))) H = some (.ptr b g (o + i) 0) := by
  rw [viaddr_r h (by omega) (by omega), Int.toNat_natCast]
abbrev TC (f : Nat) (args : List VV) (r : VV) : Prop := ∀ (lo : Nat) (H : VHeap) (k : VV → VHeap → Prop), vcallP f args lo H k = k r H
theorem TC.of {f : Nat} {args : List VV} {r : VV} (hr : raws.contains f = false) (ha : pureL args = true) (h : vT f args = some r) : TC f args r := by
  intro lo H k
  unfold vcallP tstep
  simp only [hr, ha, if_true, h, Bool.false_eq_true, if_false, tk_some]
theorem TC.walk {f : Nat} {pf : PFunc} {args : List VV} {r : VV} (fl : Fl) (ht : tab f = some pf) (hr : raws.contains f = false) (hn : args.length ≤ pf.ntmps) (ha : pureL args = true) (hres : resV r = true) (h : VW fl 0 pf.body (vretQ pf.res fun v H => fz depth H v = some r) (vpenv args) []) : TC f args r :=
  TC.of hr ha (vT_eq ha hres (VT.walk fl ht hn h))
theorem TC.withRows {f : Nat} {args args' : List VV} {r : VV} (h : TC f args' r) (hr : raws.contains f = false) (ha' : pureL args' = true) (hf : args.mapM (fz depth H) = some args') (ha : pureL args = false) : vcallP f args lo H k = if flatV r = true then k r H else k r (freezeAll H (args.flatMap (fzIds depth H))) := by
  have e : ∀ K, tstep f args' K = K r := fun K => by
    have := h 0 [] fun r _ => K r
    unfold vcallP at this
    simpa only [hr, ha', if_true, Bool.false_eq_true, if_false] using this
  unfold vcallP
  simp only [hr, ha, hf, Bool.false_eq_true, if_false]
  rw [e]
theorem fz_pure {n : Nat} {v : VV} (h : pureV v = true) : fz (n + 1) H v = some v := by
  unfold PM.fz
  rw [if_pos h]
theorem fz_res {v : VV} (h : pureV v = true) : fz depth H v = some v := fz_pure h
theorem mapM_pure {n : Nat} : ∀ {es : List VV}, pureL es = true → es.mapM (PM.fz (n + 1) H) = some es
  | [], _ => rfl
  | x :: xs, h => by
    simp only [pureL, Bool.and_eq_true] at h
    rw [List.mapM_cons, fz_pure h.1, mapM_pure h.2]
    rfl
theorem fz_row {b g n c e : Nat} {es : List VV} {w : Bool} (h : vrow H b g = some (es, e, w)) (hn : n = es.length) (hc : n ≤ c) (hp : pureL es = true) : fz depth H (.ref b g 0 n c) = some (.tree es .op) := by
  have : pureV (.ref b g 0 n c) = false := rfl
  show fz (7 + 1) H _ = _
  unfold PM.fz
  simp only [this, h, Bool.false_eq_true, if_false]
  subst hn
  rw [if_pos ⟨by omega, hc⟩, List.drop_zero, List.take_length, mapM_pure hp]
  rfl
theorem fzIds_pure {n : Nat} {v : VV} (h : pureV v = true) : fzIds n H v = [] := by
  cases n with
  | zero => rfl
  | succ n => unfold fzIds; rw [if_pos h]
theorem flatIds_pure {n : Nat} : ∀ {es : List VV}, pureL es = true → es.flatMap (fzIds n H) = []
  | [], _ => rfl
  | x :: xs, h => by
    simp only [pureL, Bool.and_eq_true] at h
    rw [List.flatMap_cons, fzIds_pure h.1, flatIds_pure h.2]
    rfl
theorem fzIds_row {b g n c e : Nat} {es : List VV} {w : Bool} (h : vrow H b g = some (es, e, w)) (hn : n = es.length) (hp : pureL es = true) : fzIds depth H (.ref b g 0 n c) = [b] := by
  have : pureV (.ref b g 0 n c) = false := rfl
  show fzIds (7 + 1) H _ = _
  unfold fzIds
  simp only [this, h, Bool.false_eq_true, if_false]
  subst hn
  rw [List.drop_zero, List.take_length, flatIds_pure hp]
theorem tk_mono {r : Option VV} {K K' : VV → Prop} (hk : ∀ v, K v → K' v) (h : tk r K) : tk r K' := by
  cases r with
  | none => exact h
  | some v => exact hk _ h
theorem vcallP_mono {f : Nat} {args : List VV} {k k' : VV → VHeap → Prop} (hk : ∀ v H, k v H → k' v H) (h : vcallP f args lo H k) : vcallP f args lo H k' := by
  unfold vcallP at h ⊢
  split at h
  · rename_i h1
    rw [if_pos h1]
    exact h.mono hk
  · rename_i h1
    rw [if_neg h1]
    split at h
    · rename_i h2
      rw [if_pos h2]
      exact tk_mono (fun v => hk v H) h
    · rename_i h2
      rw [if_neg h2]
      split at h
      · refine tk_mono (fun v hv => ?_) h
        split at hv
        · rename_i h3; rw [if_pos h3]; exact hk _ _ hv
        · rename_i h3; rw [if_neg h3]; exact hk _ _ hv
      · cases h
theorem vstep_mono {k k' : VV → VHeap → Prop} (hk : ∀ v H, k v H → k' v H) (h : vstep fl lo q op ρ H k) : vstep fl lo q op ρ H k' := by
  unfold vstep at h ⊢
  split at h
  · exact vcallP_mono hk h
  · split at h
    · exact vcallP_mono hk h
    · cases h
  · split at h
    · exact hk _ _ h
    · cases h
theorem VS_mono {K K' : VEnv → VHeap → Prop} (hk : ∀ ρ H, K ρ H → K' ρ H) : ∀ {is : List PI} {ρ : VEnv} {H : VHeap}, VS fl lo is K ρ H → VS fl lo is K' ρ H
  | [], ρ, H, h => hk _ _ h
  | i :: is, ρ, H, h => by
    unfold VS at h ⊢
    split at h
    · cases h
    · exact VS_mono hk h
    · exact ⟨h.1, vstep_mono (fun v H' hv => VS_mono hk hv) h.2⟩
theorem onNormal_mono {K K' : VEnv → VHeap → Prop} {Q Q' : VQ} (hk : ∀ ρ H, K ρ H → K' ρ H) (hq : ∀ x ρ H, Q x ρ H → Q' x ρ H) : ∀ x ρ H, onNormal K Q x ρ H → onNormal K' Q' x ρ H
  | .normal, ρ, H, h => hk _ _ h
  | .exit _, ρ, H, h => hq _ _ _ h
  | .ret, ρ, H, h => hq _ _ _ h
theorem gh_mono {K K' : VEnv → VHeap → Prop} (hk : ∀ ρ H, K ρ H → K' ρ H) (h : gh K ρ H) : gh K' ρ H := by
  obtain ⟨ts, ρ', H', h1, h2⟩ := h
  exact ⟨ts, ρ', H', h1, hk _ _ h2⟩
theorem VW_mono : ∀ {c : PCode} {Q Q' : VQ} {ρ : VEnv} {H : VHeap}, (∀ x ρ H, Q x ρ H → Q' x ρ H) → VW fl lo c Q ρ H → VW fl lo c Q' ρ H
  | .skip, _, _, _, _, hq, h => hq _ _ _ h
  | .exit _, _, _, _, _, hq, h => hq _ _ _ h
  | .ret, _, _, _, _, hq, h => hq _ _ _ h
  | .reg _, _, _, _, _, hq, h => VS_mono (fun ρ H => hq .normal ρ H) h
  | .seq a b, Q, Q', _, _, hq, h => VW_mono (c := a) (onNormal_mono (fun ρ H h => VW_mono (c := b) hq h) hq) h
  | .cond c a b, Q, Q', ρ, H, hq, h => by
    unfold VW at h ⊢
    split at h
    · split at h
      · rename_i h1; rw [if_pos h1]; exact VW_mono (c := a) hq h
      · rename_i h1; rw [if_neg h1]; exact VW_mono (c := b) hq h
    · cases h
  | .block i a, Q, Q', _, _, hq, h => by
    refine VW_mono (c := a) (fun x ρ H hx => ?_) h
    cases x with
    | normal => exact hq _ _ _ hx
    | ret => exact hq _ _ _ hx
    | exit j =>
      rw [onExit_exit] at hx ⊢
      split at hx
      · rename_i h1; rw [if_pos h1]; exact hq _ _ _ hx
      · rename_i h1; rw [if_neg h1]; exact hq _ _ _ hx
  | .loop a, Q, Q', ρ, H, hq, h => by
    obtain ⟨n, h⟩ := h
    refine ⟨n, ?_⟩
    induction n generalizing ρ H with
    | zero => cases h
    | succ n ih =>
      refine VW_mono (c := a) (onNormal_mono (fun ρ H h => ?_) fun x ρ H h => gh_mono (hq x) h) h
      rcases h with h | ⟨h1, h2⟩
      · exact .inl (ih _ _ h)
      · exact .inr ⟨h1, ih _ _ h2⟩
theorem gh_id {K : VEnv → VHeap → Prop} (h : K ρ H) : gh K ρ H := ⟨[], ρ, H, rfl, h⟩
theorem VW_loopG {α : Type} {c : PCode} (I : α → VEnv → VHeap → Prop) (μ : α → Nat) (s : α) (h0 : I s ρ H)
    (round : ∀ s ρ H, I s ρ H → VW fl lo c (onNormal (fun ρ' H' => ∃ s', μ s' < μ s ∧ (I s' ρ' H' ∨ (rowsBelow H.length (H'.take H.length) = true ∧ I s' (scrubE H.length ρ') (H'.take H.length)))) (fun x => gh (Q x))) ρ H) : VW fl lo (.loop c) Q ρ H := by
  refine ⟨μ s + 1, ?_⟩
  have key : ∀ n s ρ H, μ s < n → I s ρ H → loopN (VW fl lo c) (fun x => gh (Q x)) n ρ H := by
    intro n
    induction n with
    | zero => intro s ρ H h; omega
    | succ n ih =>
      intro s ρ H hn hI
      refine VW_mono (onNormal_mono (fun ρ' H' h => ?_) fun x ρ H h => h) (round s ρ H hI)
      obtain ⟨s', h1, h2 | ⟨h2, h3⟩⟩ := h
      · exact .inl (ih s' _ _ (by omega) h2)
      · exact .inr ⟨h2, ih s' _ _ (by omega) h3⟩
  exact key _ s ρ H (Nat.lt_succ_self _) h0
theorem VW_loop {α : Type} {c : PCode} (I : α → VEnv → VHeap → Prop) (μ : α → Nat) (s : α) (h0 : I s ρ H)
    (round : ∀ s ρ H, I s ρ H → VW fl lo c (onNormal (fun ρ' H' => ∃ s', μ s' < μ s ∧ I s' ρ' H') Q) ρ H) : VW fl lo (.loop c) Q ρ H :=
  VW_loopG I μ s h0 fun s ρ H h => VW_mono (onNormal_mono (fun _ _ ⟨s', h1, h2⟩ => ⟨s', h1, .inl h2⟩) fun _ _ _ h => gh_id h) (round s ρ H h)
theorem scrub_pure {n : Nat} {v : VV} (h : below n v = true) : scrub n v = v := by
  unfold scrub
  rw [if_pos h]
mutual
theorem below_pure {n : Nat} (v : VV) (h : pureV v = true) : below n v = true := by
  cases v with
  | any => rfl
  | sc => rfl
  | agg cs => exact below_pureL cs h
  | tup cs => exact below_pureL cs h
  | tree es t => exact below_pureL es (pure_tree h).2.1
  | tptr x o => exact below_pure x h
  | ref => cases h
  | ptr => cases h
  | clo f caps => exact below_pureL caps h
theorem below_pureL {n : Nat} (vs : List VV) (h : pureL vs = true) : belowL n vs = true := by
  cases vs with
  | nil => rfl
  | cons x xs =>
    simp only [pureL, Bool.and_eq_true] at h
    simp only [belowL, below_pure x h.1, below_pureL xs h.2, Bool.and_self]
end
end
end Go.PM
/- Numbers as lists of digits, the lowest first: plain laws. -/
namespace Go.PM
def val (b : Nat) : List Nat → Nat
  | [] => 0
  | d :: ds => d + b * val b ds
def digs (b n : Nat) : List Nat := if h : n = 0 ∨ b < 2 then [] else n % b :: digs b (n / b)
termination_by n
decreasing_by exact Nat.div_lt_self (by omega) (by omega)
section
variable {b : Nat}
theorem digs_zero : digs b 0 = [] := by rw [digs]; simp
theorem digs_pos (hb : 2 ≤ b) {n : Nat} (hn : n ≠ 0) : digs b n = n % b :: digs b (n / b) := by rw [digs, dif_neg (by omega)]
theorem val_cons {d : Nat} {ds : List Nat} : val b (d :: ds) = d + b * val b ds := rfl
theorem val_append (xs ys : List Nat) : val b (xs ++ ys) = val b xs + b ^ xs.length * val b ys := by
  induction xs with
  | nil => simp [val]
  | cons x xs ih =>
    simp only [List.cons_append, val_cons, ih, List.length_cons, Nat.pow_succ]
    rw [Nat.mul_add, Nat.mul_comm (b ^ xs.length) b, Nat.mul_assoc, Nat.add_assoc]
theorem val_one (d : Nat) : val b [d] = d := by simp [val]
theorem val_snoc (xs : List Nat) (d : Nat) : val b (xs ++ [d]) = val b xs + b ^ xs.length * d := by rw [val_append, val_one]
theorem val_replicate_zero (n : Nat) : val b (List.replicate n 0) = 0 := by
  induction n with
  | zero => rfl
  | succ n ih => simp [List.replicate_succ, val, ih]
theorem val_lt {xs : List Nat} (h : ∀ d ∈ xs, d < b) : val b xs < b ^ xs.length := by
  induction xs with
  | nil => simp [val]
  | cons x xs ih =>
    have h1 := h x List.mem_cons_self
    have h2 := ih fun d hd => h d (List.mem_cons_of_mem _ hd)
    simp only [val_cons, List.length_cons, Nat.pow_succ]
    have h3 : b * (val b xs + 1) ≤ b * b ^ xs.length := Nat.mul_le_mul_left _ h2
    rw [Nat.mul_add, Nat.mul_one] at h3
    rw [Nat.mul_comm (b ^ xs.length) b]
    omega
theorem val_digs (hb : 2 ≤ b) (n : Nat) : val b (digs b n) = n := by
  induction n using Nat.strongRecOn with
  | _ n ih =>
    by_cases h : n = 0
    · subst h; rw [digs_zero]; rfl
    · rw [digs_pos hb h, val_cons, ih _ (Nat.div_lt_self (by omega) (by omega))]
      exact Nat.mod_add_div n b
theorem digs_lt (hb : 2 ≤ b) (n : Nat) : ∀ d ∈ digs b n, d < b := by
  induction n using Nat.strongRecOn with
  | _ n ih =>
    by_cases h : n = 0
    · subst h; rw [digs_zero]; intro d hd; cases hd
    · rw [digs_pos hb h]
      intro d hd
      rcases List.mem_cons.1 hd with rfl | hd
      · exact Nat.mod_lt _ (by omega)
      · exact ih _ (Nat.div_lt_self (by omega) (by omega)) d hd
theorem digs_nil (hb : 2 ≤ b) {n : Nat} : digs b n = [] ↔ n = 0 := by
  constructor
  · intro h
    have := val_digs hb n
    rw [h] at this
    exact this.symm
  · rintro rfl; exact digs_zero
theorem digs_last (hb : 2 ≤ b) (n : Nat) : (digs b n).getLast? ≠ some 0 := by
  induction n using Nat.strongRecOn with
  | _ n ih =>
    by_cases h : n = 0
    · subst h; rw [digs_zero]; simp
    · rw [digs_pos hb h]
      have h1 := ih _ (Nat.div_lt_self (n := n) (k := b) (by omega) (by omega))
      by_cases h2 : n / b = 0
      · rw [h2, digs_zero]
        have : n < b := by
          rcases Nat.div_eq_zero_iff.1 h2 with h | h <;> omega
        simp [Nat.mod_eq_of_lt this, h]
      · have hne : digs b (n / b) ≠ [] := fun h => h2 ((digs_nil hb).1 h)
        obtain ⟨x, xs, hx⟩ := List.exists_cons_of_ne_nil hne
        rw [hx] at h1 ⊢
        rw [List.getLast?_cons_cons]
        exact h1
theorem digs_val (hb : 2 ≤ b) {xs : List Nat} (h : ∀ d ∈ xs, d < b) (hl : xs.getLast? ≠ some 0) : digs b (val b xs) = xs := by
  induction xs with
  | nil => exact digs_zero
  | cons x xs ih =>
    have h1 := h x List.mem_cons_self
    have hr : (x + b * val b xs) % b = x := by rw [Nat.add_mul_mod_self_left, Nat.mod_eq_of_lt h1]
    have hq : (x + b * val b xs) / b = val b xs := by rw [Nat.add_mul_div_left _ _ (by omega), Nat.div_eq_of_lt h1, Nat.zero_add]
    cases xs with
    | nil =>
      have hx : x ≠ 0 := by rintro rfl; simp at hl
      rw [val_one, digs_pos hb hx, Nat.mod_eq_of_lt h1, Nat.div_eq_of_lt h1, digs_zero]
    | cons y ys =>
      rw [List.getLast?_cons_cons] at hl
      have h2 := ih (fun d hd => h d (List.mem_cons_of_mem _ hd)) hl
      have h3 : val b (y :: ys) ≠ 0 := fun h0 => by rw [h0, digs_zero] at h2; cases h2
      have h4 : b * val b (y :: ys) ≠ 0 := Nat.mul_ne_zero (by omega) h3
      rw [val_cons, digs_pos hb (by omega), hr, hq, h2]
theorem digs_ge (hb : 2 ≤ b) {n : Nat} (hn : n ≠ 0) : b ^ ((digs b n).length - 1) ≤ n := by
  induction n using Nat.strongRecOn with
  | _ n ih =>
    rw [digs_pos hb hn]
    by_cases h2 : n / b = 0
    · rw [h2, digs_zero]; simp; omega
    · have h3 := ih _ (Nat.div_lt_self (by omega) (by omega)) h2
      have hne : digs b (n / b) ≠ [] := fun h => h2 ((digs_nil hb).1 h)
      obtain ⟨x, xs, hx⟩ := List.exists_cons_of_ne_nil hne
      rw [hx] at h3 ⊢
      simp only [List.length_cons, Nat.add_sub_cancel] at h3 ⊢
      rw [Nat.pow_succ]
      calc b ^ xs.length * b ≤ n / b * b := Nat.mul_le_mul_right _ h3
        _ ≤ n := Nat.div_mul_le_self n b
theorem digs_len_lt (hb : 2 ≤ b) (n : Nat) : n < b ^ (digs b n).length := by
  have := val_lt (digs_lt hb n)
  rwa [val_digs hb] at this
theorem digs_len_le (hb : 2 ≤ b) {n k : Nat} (h : n < b ^ k) : (digs b n).length ≤ k := by
  by_cases hn : n = 0
  · subst hn; rw [digs_zero]; simp
  · have h1 := digs_ge hb hn
    have h2 : b ^ ((digs b n).length - 1) < b ^ k := Nat.lt_of_le_of_lt h1 h
    have h3 : (digs b n).length - 1 < k := (Nat.pow_lt_pow_iff_right (by omega)).1 h2
    have hne : digs b n ≠ [] := fun h => hn ((digs_nil hb).1 h)
    have := List.length_pos_iff.2 hne
    omega
theorem digs_len_mono (hb : 2 ≤ b) {m n : Nat} (h : m ≤ n) : (digs b m).length ≤ (digs b n).length :=
  digs_len_le hb (Nat.lt_of_le_of_lt h (digs_len_lt hb n))
theorem val_split (xs : List Nat) (i : Nat) : val b xs = val b (xs.take i) + b ^ (xs.take i).length * val b (xs.drop i) := by
  rw [← val_append, List.take_append_drop]
theorem val_take_succ {xs : List Nat} {i d : Nat} (h : xs[i]? = some d) : val b (xs.take (i + 1)) = val b (xs.take i) + b ^ i * d := by
  have hlt := (List.getElem?_eq_some_iff.1 h).1
  rw [List.take_add_one, h]
  simp only [Option.toList_some]
  rw [val_snoc, List.length_take, Nat.min_eq_left (by omega)]
theorem val_drop {xs : List Nat} {i d : Nat} (h : xs[i]? = some d) : val b (xs.drop i) = d + b * val b (xs.drop (i + 1)) := by
  obtain ⟨hlt, he⟩ := List.getElem?_eq_some_iff.1 h
  rw [List.drop_eq_getElem_cons hlt, he, val_cons]
theorem carry_step {P A B O c x y s q r W : Nat} (h : A + B = O + P * c) (hs : c + x + y = s) (hr : r + W * q = s) : (A + P * x) + (B + P * y) = (O + P * r) + (P * W) * q := by grind
theorem borrow_step {P A B O l x y r W l' : Nat} (h : A + P * l = O + B) (hd : r + y + l = x + W * l') : (A + P * x) + (P * W) * l' = (O + P * r) + (B + P * y) := by grind
theorem set_take {xs : List Nat} {i d : Nat} (h : i < xs.length) : (xs.set i d).take (i + 1) = xs.take i ++ [d] := by
  rw [List.set_eq_take_append_cons_drop, if_pos h, List.take_append]
  simp [List.take_take, Nat.min_eq_left (by omega : i ≤ xs.length), Nat.min_eq_right (by omega : i ≤ i + 1)]
theorem val_set_take {xs : List Nat} {i d : Nat} (h : i < xs.length) : val b ((xs.set i d).take (i + 1)) = val b (xs.take i) + b ^ i * d := by
  rw [set_take h, val_snoc, List.length_take, Nat.min_eq_left (by omega)]
theorem set_lt {xs : List Nat} {i d : Nat} (h : ∀ x ∈ xs, x < b) (hd : d < b) : ∀ x ∈ xs.set i d, x < b := by
  intro x hx
  rcases List.mem_or_eq_of_mem_set hx with h1 | h1
  · exact h x h1
  · subst h1; exact hd
theorem val_take_ge {xs : List Nat} {i : Nat} (h : xs.length ≤ i) : val b (xs.take i) = val b xs := by rw [List.take_of_length_le h]
theorem rep_lt (hb : 0 < b) (n : Nat) : ∀ x ∈ List.replicate n 0, x < b := by
  intro x hx
  rw [List.eq_of_mem_replicate hx]
  exact hb
theorem mul_lt_of {P x y R t : Nat} (ht : t < P) (h : x < y) : t + P * (x + R) < P * (y + R) := by
  have h1 : P * (x + R + 1) ≤ P * (y + R) := Nat.mul_le_mul_left _ (by omega)
  rw [Nat.mul_add, Nat.mul_one] at h1
  omega
theorem cmp_digit {xs ys : List Nat} {i x y : Nat} (hx : ∀ d ∈ xs, d < b) (hl : xs.length = ys.length) (hi : xs[i]? = some x) (hj : ys[i]? = some y) (hd : xs.drop (i + 1) = ys.drop (i + 1)) (h : x < y) : val b xs < val b ys := by
  have h1 := (List.getElem?_eq_some_iff.1 hi).1
  have ht : (xs.take i).length = i := by simp; omega
  have ht' : (ys.take i).length = i := by simp; omega
  have h2 := val_lt (b := b) (xs := xs.take i) fun d hd => hx d (List.mem_of_mem_take hd)
  rw [ht] at h2
  rw [val_split xs i, val_split ys i, ht, ht', val_drop hi, val_drop hj, hd]
  have := mul_lt_of (R := b * val b (ys.drop (i + 1))) h2 h
  omega
theorem digs_inj (hb : 2 ≤ b) {m n : Nat} (h : digs b m = digs b n) : m = n := by
  have := congrArg (val b) h
  rwa [val_digs hb, val_digs hb] at this
def cmpI (a b : Nat) : Int := if a < b then -1 else if a = b then 0 else 1
theorem lt_of_len (hb : 2 ≤ b) {m n : Nat} (h : (digs b m).length < (digs b n).length) : m < n := by
  rcases Nat.lt_or_ge m n with h1 | h1
  · exact h1
  · have := digs_len_mono hb h1
    omega
end
end Go.PM
/- Lists of elements of one kind: how the logic's operations look at them. -/
namespace Go.PM
abbrev VI (n : Int) : VV := .sc (.int .i64 n)
abbrev VK (k : IntKind) (n : Int) : VV := .sc (.int k n)
abbrev VB (t : Bool) : VV := .sc (.bool t)
abbrev listV {α : Type} (f : α → VV) (xs : List α) : VV := .tree (xs.map f) .op
section
variable {α : Type} {f : α → VV} {xs ys : List α} {x : α} {t : TK} {H : VHeap} {size i : Nat} {k : IntKind}
theorem vlen_map : vlen (.tree (xs.map f) t) H = some (VI xs.length) := by simp [vlen]
theorem viaddr_map (hx : xs[i]? = some x) (hs : (vcells (f x)).length = size) : viaddr size (.tree (xs.map f) t) (VK k (i : Int)) H = some (.tptr (f x) 0) :=
  viaddr_tn (by simp [hx]) hs
theorem mem_map_len (hs : ∀ x, (vcells (f x)).length = size) : ∀ y ∈ xs.map f, (vcells y).length = size := by
  intro y hy
  obtain ⟨x, _, rfl⟩ := List.mem_map.1 hy
  exact hs x
theorem pure_map (hp : ∀ x, pureV (f x) = true) : pureL (xs.map f) = true := by
  rw [pureL_mem]
  intro y hy
  obtain ⟨x, _, rfl⟩ := List.mem_map.1 hy
  exact hp x
theorem res_map (hp : ∀ x, resV (f x) = true) : resL (xs.map f) = true := by
  rw [resL_mem]
  intro y hy
  obtain ⟨x, _, rfl⟩ := List.mem_map.1 hy
  exact hp x
theorem uni_map {size : Nat} (hs : ∀ x, (vcells (f x)).length = size) : uni (xs.map f) = true := by
  cases xs with
  | nil => rfl
  | cons x xs =>
    simp only [List.map_cons, uni, List.all_eq_true]
    intro y hy
    obtain ⟨z, _, rfl⟩ := List.mem_map.1 hy
    simp [hs]
theorem pure_list {size : Nat} (hs : ∀ x, (vcells (f x)).length = size) (hp : ∀ x, pureV (f x) = true) : pureV (listV f xs) = true := by
  simp only [listV, pureV, pure_map hp, uni_map hs, decide_true, Bool.and_self]
theorem res_list {size : Nat} (hs : ∀ x, (vcells (f x)).length = size) (hp : ∀ x, resV (f x) = true) (he : ∀ x, elemOk (f x) = true) : resV (listV f xs) = true := by
  have h4 : (xs.map f).all elemOk = true := by
    rw [List.all_eq_true]
    intro y hy
    obtain ⟨z, _, rfl⟩ := List.mem_map.1 hy
    exact he z
  simp only [listV, resV, res_map hp, uni_map hs, h4, decide_true, Bool.and_self]
theorem vsub_to {es : List VV} {h : Nat} (hne : 0 < es.length) (hs : ∀ x ∈ es, (vcells x).length = size) (hh : h ≤ es.length) {k2 : IntKind} :
    vsub size (.tree es t) none (some (VK k2 h)) none H = some (.tree (es.take h) .op) := by
  cases es with
  | nil => simp at hne
  | cons y ys =>
    have hy := hs y List.mem_cons_self
    simp only [List.length_cons] at hh
    have e1 : (0 : Int) ≤ h ∧ (h : Int) ≤ ((ys.length + 1 : Nat) : Int) := by omega
    simp only [vsub, vnum, hy, if_true, pbound, e1, Int.toNat_natCast, Option.isSome_none, Bool.false_eq_true, false_and, if_false]
    simp
theorem map_len_pos (h : 0 < xs.length) : 0 < (xs.map f).length := by simpa using h
theorem vsub_ref {b g o n c : Nat} {es : List VV} {w : Bool} {l h : Nat} (hr : vrow H b g = some (es, size, w)) (hl : l ≤ h) (hh : h ≤ c) {k1 k2 : IntKind} :
    vsub size (.ref b g o n c) (some (VK k1 l)) (some (VK k2 h)) none H = some (.ref b g (o + l) (h - l) (c - l)) := by
  have e1 : (0 : Int) ≤ h ∧ (h : Int) ≤ (c : Int) := by omega
  have e2 : (0 : Int) ≤ l ∧ (l : Int) ≤ (h : Int) := by omega
  simp only [vsub, vnum, hr, if_true, pbound, e1, e2, Int.toNat_natCast, Option.isSome_none, Bool.false_eq_true, false_and, if_false]
  simp [hl]
theorem vsub_ref_to {b g o n c : Nat} {es : List VV} {w : Bool} {h : Nat} (hr : vrow H b g = some (es, size, w)) (hh : h ≤ c) {k2 : IntKind} :
    vsub size (.ref b g o n c) none (some (VK k2 h)) none H = some (.ref b g o h c) := by
  have e1 : (0 : Int) ≤ h ∧ (h : Int) ≤ (c : Int) := by omega
  simp only [vsub, vnum, hr, if_true, pbound, e1, Int.toNat_natCast, Option.isSome_none, Bool.false_eq_true, false_and, if_false]
  simp
theorem vsub_map_to {h : Nat} (hs : ∀ x, (vcells (f x)).length = size) (hne : 0 < xs.length) (hh : h ≤ xs.length) {k2 : IntKind} :
    vsub size (.tree (xs.map f) t) none (some (VK k2 h)) none H = some (listV f (xs.take h)) := by
  rw [vsub_to (map_len_pos hne) (mem_map_len hs) (by simpa using hh)]
  simp [listV]
theorem vrow_top {b g e : Nat} {es : List VV} {w : Bool} {L K : VHeap} (h : b = L.length) : vrow (L ++ .row g es e w :: K) b g = some (es, e, w) := by
  subst h
  simp [vrow]
theorem vrow_zero {g e : Nat} {es : List VV} {w : Bool} {K : VHeap} : vrow (.row g es e w :: K) 0 g = some (es, e, w) := by simp [vrow]
theorem n_ne_succ {n : Nat} : (n = n + 1) = False := eq_false fun h => by omega
theorem vrow_old {g g' e : Nat} {es : List VV} {w : Bool} {K : VHeap} (h : g' ≠ g) : vrow (.row g' es e w :: K) 0 g = none := by simp [vrow, h]
theorem vrow_stale {g e : Nat} {es : List VV} {w : Bool} {K : VHeap} : vrow (.row (g + 1) es e w :: K) 0 g = none := vrow_old (Nat.succ_ne_self g)
theorem vrow_succ {b g : Nat} {x : VBlk} {K : VHeap} : vrow (x :: K) (b + 1) g = vrow K b g := by simp [vrow]
theorem viaddr_row {b g o n c e : Nat} {es : List VV} {w : Bool} (h : vrow H b g = some (es, e, w)) (hi : i < n) : viaddr e (.ref b g o n c) (VK k (i : Int)) H = some (.ptr b g (o + i) 0) := viaddr_rn h hi
theorem vstore_all {b g j e lo : Nat} {es : List VV} {v : VV} (h : vrow H b g = some (es, e, true)) (hj : j < es.length) (hlo : lo ≤ b) (hv : (vcells v).length = e) (hs : (vcells v).all vscal = true) : vstore lo e (.ptr b g j 0) v H = some (H.set b (.row g (es.set j v) e true)) := by
  obtain ⟨x, hx⟩ : ∃ x, es[j]? = some x := ⟨_, List.getElem?_eq_getElem hj⟩
  simp only [vstore, h, hx]
  rw [if_pos ⟨hv, hlo, hs⟩, if_pos ⟨trivial, trivial⟩]
theorem vmake_map {z : List Value} {bytes n : Nat} (hz : elemOf (z.map inj1) = f x) (hn : n * bytes ≤ 281474976710656) (hm : n ≤ 9223372036854775807) : vmake z bytes (VI n) (VI n) H = some (.ref H.length 0 0 n n, H ++ [.row 0 ((List.replicate n x).map f) z.length true]) := by
  simp only [vmake]
  rw [if_pos ⟨by omega, by omega, by omega, by omega⟩, hz]
  simp
theorem vload_row {ag w : Bool} {b gn e j o : Nat} (h : vrow H b gn = some (xs.map f, e, w)) (hx : xs[j]? = some x) : vload ag size (.ptr b gn j o) H = rdCells ag size (f x) o :=
  vload_p h (by simp [hx])
theorem vstore_map {b g j e lo : Nat} (h : vrow H b g = some (xs.map f, e, true)) (hj : j < xs.length) (hlo : lo ≤ b) (hv : (vcells (f x)).length = e) (hs : (vcells (f x)).all vscal = true) : vstore lo e (.ptr b g j 0) (f x) H = some (H.set b (.row g ((xs.set j x).map f) e true)) := by
  rw [vstore_all h (by simpa using hj) hlo hv hs, List.map_set]
theorem fz_rowP {b gn n c e : Nat} {es : List VV} {w : Bool} (h : vrow H b gn = some (es, e, w)) (hn : n ≤ es.length) (hc : n ≤ c) (hp : pureL es = true) : fz depth H (.ref b gn 0 n c) = some (.tree (es.take n) .op) := by
  have : pureV (.ref b gn 0 n c) = false := rfl
  show fz (7 + 1) H _ = _
  unfold fz
  simp only [this, h, Bool.false_eq_true, if_false]
  have hp' : pureL (es.take n) = true := pureL_mem.2 fun x hx => pureL_mem.1 hp x (List.mem_of_mem_take hx)
  rw [if_pos ⟨by omega, hc⟩, List.drop_zero, mapM_pure hp']
  rfl
theorem TC.flat {fn : Nat} {args args' : List VV} {r : VV} (h : TC fn args' r) (hraw : raws.contains fn = false) (ha' : pureL args' = true) (hf : args.mapM (fz depth H) = some args') (hr : flatV r = true) :
    ∀ (lo : Nat) (K : VV → VHeap → Prop), vcallP fn args lo H K = K r H := by
  intro lo K
  cases hp : pureL args with
  | true =>
    have := mapM_pure (n := 7) (H := H) hp
    rw [show fz depth H = fz (7 + 1) H from rfl, this] at hf
    cases hf
    exact h lo H K
  | false => rw [h.withRows hraw ha' hf hp, hr, if_pos rfl]
theorem fz1 {v v' : VV} (h : fz depth H v = some v') : [v].mapM (fz depth H) = some [v'] := by rw [List.mapM_cons, h]; rfl
theorem fz2 {v v' u u' : VV} (h : fz depth H v = some v') (hu : fz depth H u = some u') : [v, u].mapM (fz depth H) = some [v', u'] := by rw [List.mapM_cons, h, fz1 hu]; rfl
theorem TC.row1 {fn b gn n c e size : Nat} {w : Bool} {r : VV} (h : TC fn [listV f xs] r) (hr : vrow H b gn = some (xs.map f, e, w)) (hn : n = xs.length) (hc : n ≤ c) (hs : ∀ x, (vcells (f x)).length = size) (hp : ∀ x, pureV (f x) = true) (hraw : raws.contains fn = false) (hf : flatV r = false) :
    ∀ (lo : Nat) (K : VV → VHeap → Prop), vcallP fn [.ref b gn 0 n c] lo H K = K r (freezeAll H [b]) := by
  intro lo K
  have e1 : fz depth H (.ref b gn 0 n c) = some (listV f xs) := fz_row hr (by simpa using hn) hc (pure_map hp)
  have e2 : fzIds depth H (.ref b gn 0 n c) = [b] := fzIds_row hr (by simpa using hn) (pure_map hp)
  have e3 : [VV.ref b gn 0 n c].mapM (fz depth H) = some [listV f xs] := by rw [List.mapM_cons, e1]; rfl
  rw [h.withRows hraw (by simp only [pureL, pure_list hs hp, Bool.and_self]) e3 rfl, hf]
  simp only [Bool.false_eq_true, if_false, List.flatMap_cons, List.flatMap_nil, e2, List.append_nil]
theorem fz_cl {es : List VV} {e : Nat} (hp : pureL es = true) : fz depth H (.tree es (.cl e)) = some (.tree es .op) := by
  show fz (7 + 1) H _ = _
  unfold fz
  have : pureV (.tree es (.cl e)) = false := by simp [pureV]
  simp only [this, Bool.false_eq_true, if_false, mapM_pure hp]
  rfl
theorem fzIds_cl {es : List VV} {e : Nat} (hp : pureL es = true) : fzIds depth H (.tree es (.cl e)) = [] := by
  show fzIds (7 + 1) H _ = _
  unfold fzIds
  have : pureV (.tree es (.cl e)) = false := by simp [pureV]
  simp only [this, Bool.false_eq_true, if_false, flatIds_pure hp]
theorem fz_niltree : fz depth H (.tree [] .nil) = some (.tree [] .op) := by
  show fz (7 + 1) H _ = _
  unfold fz
  have : pureV (.tree [] .nil) = false := by simp [pureV]
  simp only [this, Bool.false_eq_true, if_false]
  rfl
theorem TC.args {fn : Nat} {args args' : List VV} {r : VV} (h : TC fn args' r) (hraw : raws.contains fn = false) (ha' : pureL args' = true) (hf : args.mapM (fz depth H) = some args') (hi : args.flatMap (fzIds depth H) = []) :
    ∀ (lo : Nat) (K : VV → VHeap → Prop), vcallP fn args lo H K = K r H := by
  intro lo K
  cases hp : pureL args with
  | true =>
    have := mapM_pure (n := 7) (H := H) hp
    rw [show fz depth H = fz (7 + 1) H from rfl, this] at hf
    cases hf
    exact h lo H K
  | false =>
    rw [h.withRows hraw ha' hf hp, hi]
    split <;> rfl
theorem vlit_nil {lr : Bool} {z : List Value} (hz : (z.map inj1).all vscal = true) : vlit lr z 0 [] H = some (.ref H.length 0 0 0 0, H ++ [.row 0 [] z.length true]) := by
  simp [vlit, litFill, hz]
theorem vlit_one {z : List Value} {v : VV} (hz : (z.map inj1).all vscal = true) (hv : (vcells v).length = z.length) (hs : (vcells v).all vscal = true) : vlit false z 1 [(0, v)] H = some (.tree [v] (.cl z.length), H) := by
  simp only [vlit, litFill, List.replicate_succ, List.replicate_zero, List.length_cons, List.length_nil, hv, hs, and_self, if_true, List.set_cons_zero, hz]
  simp [hs]
theorem vlit_two {z : List Value} {u v : VV} (hz : (z.map inj1).all vscal = true) (hu : (vcells u).length = z.length) (hus : (vcells u).all vscal = true) (hv : (vcells v).length = z.length) (hs : (vcells v).all vscal = true) : vlit false z 2 [(0, u), (1, v)] H = some (.tree [u, v] (.cl z.length), H) := by
  simp [vlit, litFill, hv, hs, hu, hus, hz, List.replicate_succ]
end
theorem wrap32 (n : Nat) : IntKind.u32.wrap (n : Int) = ((n % 4294967296 : Nat) : Int) := by rw [IntKind.wrap_u32]; omega
theorem wrap_u64 (n : Int) : IntKind.u64.wrap n = n % 18446744073709551616 := by simp [IntKind.wrap, IntKind.bits, IntKind.signed]
theorem wrapU (n : Nat) (h : n < 18446744073709551616) : IntKind.u64.wrap (n : Int) = (n : Int) := by rw [wrap_u64]; omega
theorem wrapN {x : Int} (n : Nat) (h : x = n) (hn : n ≤ 9223372036854775807) : IntKind.i64.wrap x = (n : Int) := by subst h; exact wrap64 (by omega) (by omega)
theorem shr_u64 (n : Nat) (k : IntKind) : pbin .shr (.int .u64 (n : Int)) (.int k 32) = some (.int .u64 ((n / 4294967296 : Nat) : Int)) := by
  simp only [pbin]
  have h1 : ¬ ((32 : Int) < 0) := by decide
  have h2 : Nat.min (Int.toNat 32) IntKind.u64.bits = 32 := by decide
  rw [if_neg h1, h2]
  congr 2
  rw [Int.fdiv_eq_ediv_of_nonneg _ (by decide)]
  omega
theorem shl_u64 (n : Nat) (k : IntKind) (h : n < 4294967296) : pbin .shl (.int .u64 (n : Int)) (.int k 32) = some (.int .u64 ((n * 4294967296 : Nat) : Int)) := by
  simp only [pbin]
  have h1 : ¬ ((32 : Int) < 0) := by decide
  have h2 : Nat.min (Int.toNat 32) IntKind.u64.bits = 32 := by decide
  rw [if_neg h1, h2]
  congr 2
  have : (n : Int) * 2 ^ 32 = ((n * 4294967296 : Nat) : Int) := by omega
  rw [this]
  exact wrapU _ (by omega)
section
variable {n k g : Nat} {K : VHeap} {x y : VBlk}
theorem vrow_D0 : vrow (List.replicate n VBlk.dead ++ K) n g = vrow K 0 g := by
  unfold vrow
  rw [List.getElem?_append_right (by simp)]
  simp
theorem vrow_Dk : vrow (List.replicate n VBlk.dead ++ K) (n + k) g = vrow K k g := by
  unfold vrow
  rw [List.getElem?_append_right (by simp)]
  simp
theorem set_D0 : (List.replicate n VBlk.dead ++ K).set n y = List.replicate n VBlk.dead ++ K.set 0 y := by
  rw [List.set_append_right _ _ (by simp)]
  simp
end
theorem below_row {k g e : Nat} {es : List VV} {w : Bool} {K : VHeap} (h : belowL k es = true) : rowsBelow k (.row g es e w :: K) = rowsBelow k K := by
  unfold rowsBelow
  rw [List.all_cons]
  simp only [h, Bool.true_and]
theorem vsource_one {size : Nat} {v : VV} {t : TK} {H : VHeap} (h : (vcells v).length = size) (hs : (vcells v).all vscal = true) : vsource size (.tree [v] t) H = some [v] := by
  simp [vsource, h, hs]
theorem vappend_row {α : Type} {f : α → VV} {xs : List α} {x : α} {lo b g n e bytes : Nat} {H : VHeap} (h : vrow H b g = some (xs.map f, e, true)) (hn : n = xs.length) (hlo : lo ≤ b) (he : 1 ≤ e) (hb : 1 ≤ bytes) (hsz : (n + 1) * bytes ≤ 140737488355328) :
    vappend lo e bytes (.ref b g 0 n n) [f x] H = some (.ref b (g + 1) 0 (n + 1) (n + 1), H.set b (.row (g + 1) ((xs ++ [x]).map f) e true)) := by
  subst hn
  simp only [vappend, h, List.length_cons, List.length_nil, Nat.zero_add]
  rw [if_pos ⟨hb, he⟩, if_pos ⟨trivial, hlo, by simp⟩, if_neg (by omega), if_pos hsz, List.drop_zero, List.take_of_length_le (by simp)]
  simp
section
variable {H : VHeap} {b g o n c j lo size : Nat} {neg ag : Bool} {k : IntKind} {i : Int} {v : VV}
theorem yA6 : vload ag size (.ptr b g j o) H = (match vrow H b g with
    | some (es, _, _) => match es[j]? with
      | some x => rdCells ag size x o
      | none => none
    | none => none) := rfl
theorem yA1 : vstore lo size (.ptr b g j o) v H = (match vrow H b g with
    | some (es, e, true) => match es[j]? with
      | some x =>
        if (vcells v).length = size ∧ lo ≤ b ∧ (vcells v).all vscal then
          if o = 0 ∧ size = e then some (H.set b (.row g (es.set j v) e true))
          else if 2 ≤ e ∧ o + size ≤ e then some (H.set b (.row g (es.set j (.agg (vsplice (vcells x) o (vcells v)))) e true))
          else none
        else none
      | none => none
    | _ => none) := rfl
theorem vlen_rdef : vlen (.ref b g o n c) H = (vrow H b g).map fun _ => .sc (.int .i64 n) := rfl
theorem yA2 : vfaddr size (.ptr b g j o) H = (vrow H b g).map fun _ => .ptr b g j (o + size) := rfl
theorem vchk_pdef : vchk (.ptr b g j o) H = (vrow H b g).map fun _ => .ptr b g j o := rfl
theorem yA3 : visnil neg (.ref b g o n c) H = (vrow H b g).map fun _ => .sc (.bool (false != neg)) := rfl
theorem visnil_nil : visnil neg (.tree [] .nil) H = some (.sc (.bool (true != neg))) := rfl
theorem yA4 {x : VV} {xs : List VV} {t : TK} : visnil neg (.tree (x :: xs) t) H = some (.sc (.bool (false != neg))) := rfl
theorem yA5 : viaddr size (.ref b g o n c) (.sc (.int k i)) H = (match vrow H b g with
    | some (_, e, _) => if e = size ∧ 0 ≤ i ∧ i < n then some (.ptr b g (o + i.toNat) 0) else none
    | none => none) := rfl
end
theorem isAny_sc {v : Value} : isAny (.sc v) = false := rfl
theorem isAny_tree {es : List VV} {t : TK} : isAny (.tree es t) = false := rfl
theorem isAny_ref {b g o n c : Nat} : isAny (.ref b g o n c) = false := rfl
theorem isAny_agg {cs : List VV} : isAny (.agg cs) = false := rfl
theorem isAny_clo {f : Nat} {cs : List VV} : isAny (.clo f cs) = false := rfl
theorem elemOf_one {x : VV} : elemOf [x] = x := rfl
theorem elemOf_two {x y : VV} {cs : List VV} : elemOf (x :: y :: cs) = .agg (x :: y :: cs) := rfl
theorem scrubE_app {k t : Nat} {ρ : VEnv} : scrubE k ρ t = scrub k (ρ t) := rfl
theorem scrub_of {k : Nat} {v : VV} (h : pureV v = true) : scrub k v = v := scrub_pure (below_pure v h)
theorem scrub_ref {k b g o n c : Nat} (h : b < k) : scrub k (.ref b g o n c) = .ref b g o n c := scrub_pure (by simp [below, h])
theorem vscal_sc {v : Value} : vscal (.sc v) = true := rfl
theorem vscal_tree {es : List VV} {t : TK} : vscal (.tree es t) = true := rfl
theorem vscal_ref {b g o n c : Nat} : vscal (.ref b g o n c) = true := rfl
theorem vscal_ptr {b g o n : Nat} : vscal (.ptr b g o n) = true := rfl
theorem vscal_tptr {x : VV} {o : Nat} : vscal (.tptr x o) = true := rfl
theorem vscal_clo {f : Nat} {cs : List VV} : vscal (.clo f cs) = true := rfl
theorem vcells_sc {v : Value} : vcells (.sc v) = [.sc v] := rfl
theorem vcells_agg {cs : List VV} : vcells (.agg cs) = cs := rfl
theorem vcells_tree {es : List VV} {t : TK} : vcells (.tree es t) = [.tree es t] := rfl
theorem vcells_ref {b g o n c : Nat} : vcells (.ref b g o n c) = [.ref b g o n c] := rfl
theorem cvtV_int {k k' : IntKind} {n : Int} : cvtV k (.int k' n) = some (.int k (k.wrap n)) := rfl
theorem vpenv_app {args : List VV} {t : Nat} : vpenv args t = args.getD t vundef := rfl
theorem VX : type_of% (And.intro @VW_seq <|
  And.intro @VW_reg <|
  And.intro @VW_block <|
  And.intro @VW_skip <|
  And.intro @VW_exit <|
  And.intro @VW_ret <|
  And.intro @VW_true <|
  And.intro @VW_false <|
  And.intro @onNormal_normal <|
  And.intro @onNormal_exit <|
  And.intro @onNormal_ret <|
  And.intro @onExit_normal <|
  And.intro @onExit_exit <|
  And.intro @onExit_ret <|
  And.intro @vretQ_normal <|
  And.intro @vretQ_ret <|
  And.intro @vresK_some <|
  And.intro @vres_one <|
  And.intro @vres_two <|
  And.intro @vres_three <|
  And.intro @vres_none <|
  And.intro @VS_nil <|
  And.intro @VS_op <|
  And.intro @VS_yes <|
  And.intro @VS_no <|
  And.intro @VS_guard_un <|
  And.intro @vst_mv <|
  And.intro @vst_pick <|
  And.intro @vst_bin <|
  And.intro @vst_eqb <|
  And.intro @vst_isnil <|
  And.intro @vst_eqagg <|
  And.intro @vst_un <|
  And.intro @vst_cvt <|
  And.intro @vst_cvs <|
  And.intro @vst_ext <|
  And.intro @vst_fld <|
  And.intro @vst_build <|
  And.intro @vst_chk <|
  And.intro @vst_faddr <|
  And.intro @vst_iaddr <|
  And.intro @vst_sidx <|
  And.intro @vst_ssub <|
  And.intro @vst_mkfn <|
  And.intro @vst_len <|
  And.intro @vst_slen <|
  And.intro @vst_min <|
  And.intro @vst_max <|
  And.intro @vst_load <|
  And.intro @vst_sub <|
  And.intro @vst_new <|
  And.intro @vst_box <|
  And.intro @vst_make <|
  And.intro @vst_lit <|
  And.intro @vst_store <|
  And.intro @vst_app <|
  And.intro @vst_copy <|
  And.intro @vst_clear <|
  And.intro @vst_call <|
  And.intro @vst_callv <|
  And.intro @vcallv_clo <|
  And.intro @vcont_app <|
  And.intro @von_some <|
  And.intro @vson_some <|
  And.intro @vdone_some <|
  And.intro @vapp_some <|
  And.intro @vput_app <|
  And.intro @vput_none <|
  And.intro @vev_tmp <|
  And.intro @vev_const <|
  And.intro @vev_func <|
  And.intro @inj_int <|
  And.intro @inj_bool <|
  And.intro @inj_str <|
  And.intro @inj_nil <|
  And.intro @inj_agg <|
  And.intro @inj1_int <|
  And.intro @inj1_bool <|
  And.intro @inj1_str <|
  And.intro @inj1_nil <|
  And.intro @vsc1_sc <|
  And.intro @vsc2_sc <|
  And.intro @vpick_sc <|
  And.intro @vext_tup <|
  And.intro @vlen_tree <|
  And.intro @vfaddr_t <|
  And.intro @vchk_t <|
  And.intro @vload_t <|
  And.intro @rd_sc <|
  And.intro @rd_tree <|
  And.intro @rd_ref <|
  And.intro @rd_clo <|
  And.intro @rd_fld <|
  And.intro @rd_all <|
  And.intro @List.length_map.{0, 0} <|
  And.intro @List.all_cons.{0} <|
  And.intro @List.all_nil.{0} <|
  And.intro @vscal_sc <|
  And.intro @Bool.and_self <|
  And.intro @Bool.and_true <|
  And.intro @cvtV_int <|
  And.intro @max_int <|
  And.intro @min_int <|
  And.intro @pbin_add <|
  And.intro @pbin_sub <|
  And.intro @pbin_mul <|
  And.intro @pbin_lss <|
  And.intro @pbin_leq <|
  And.intro @pbin_gtr <|
  And.intro @pbin_geq <|
  And.intro @pbin_eql <|
  And.intro @pbin_neq <|
  And.intro @pun_neg <|
  And.intro @pun_not <|
  And.intro @Value.bool.injEq <|
  And.intro @decide_eq_true_eq <|
  And.intro @decide_eq_false_iff_not <|
  And.intro @Bool.not_true <|
  And.intro @Bool.not_false <|
  And.intro @decide_true <|
  And.intro @decide_false <|
  And.intro @Bool.not_eq_true' <|
  And.intro @Bool.not_eq_false' <|
  And.intro @Bool.false_eq_true <|
  And.intro @false_and <|
  And.intro @and_false <|
  And.intro @Option.map_some.{0, 0} <|
  And.intro @Option.map_none.{0, 0} <|
  And.intro @if_true.{1} <|
  And.intro @if_false.{1} <|
  And.intro @List.map_cons.{0, 0} <|
  And.intro @List.map_nil.{0, 0} <|
  And.intro @List.cons_append.{0} <|
  And.intro @List.nil_append.{0} <|
  And.intro @and_true <|
  And.intro @true_and <|
  And.intro @Nat.zero_add <|
  And.intro @Nat.add_zero <|
  And.intro @List.length_cons.{0} <|
  And.intro @List.length_nil.{0} <|
  And.intro @vpenv_app <|
  And.intro @List.getD_cons_zero.{0} <|
  And.intro @List.getD_cons_succ.{0} <|
  And.intro @List.getD_nil.{0} <|
  And.intro @VV.sc.injEq <|
  And.intro @List.getElem?_cons_zero.{0} <|
  And.intro @List.getElem?_cons_succ.{0} <|
  And.intro @vscal_tree <|
  And.intro @vscal_ref <|
  And.intro @vscal_ptr <|
  And.intro @vscal_tptr <|
  And.intro @vscal_clo <|
  And.intro @vcells_sc <|
  And.intro @vcells_agg <|
  And.intro @vcells_tree <| @vcells_ref) :=
  And.intro @VW_seq <|
  And.intro @VW_reg <|
  And.intro @VW_block <|
  And.intro @VW_skip <|
  And.intro @VW_exit <|
  And.intro @VW_ret <|
  And.intro @VW_true <|
  And.intro @VW_false <|
  And.intro @onNormal_normal <|
  And.intro @onNormal_exit <|
  And.intro @onNormal_ret <|
  And.intro @onExit_normal <|
  And.intro @onExit_exit <|
  And.intro @onExit_ret <|
  And.intro @vretQ_normal <|
  And.intro @vretQ_ret <|
  And.intro @vresK_some <|
  And.intro @vres_one <|
  And.intro @vres_two <|
  And.intro @vres_three <|
  And.intro @vres_none <|
  And.intro @VS_nil <|
  And.intro @VS_op <|
  And.intro @VS_yes <|
  And.intro @VS_no <|
  And.intro @VS_guard_un <|
  And.intro @vst_mv <|
  And.intro @vst_pick <|
  And.intro @vst_bin <|
  And.intro @vst_eqb <|
  And.intro @vst_isnil <|
  And.intro @vst_eqagg <|
  And.intro @vst_un <|
  And.intro @vst_cvt <|
  And.intro @vst_cvs <|
  And.intro @vst_ext <|
  And.intro @vst_fld <|
  And.intro @vst_build <|
  And.intro @vst_chk <|
  And.intro @vst_faddr <|
  And.intro @vst_iaddr <|
  And.intro @vst_sidx <|
  And.intro @vst_ssub <|
  And.intro @vst_mkfn <|
  And.intro @vst_len <|
  And.intro @vst_slen <|
  And.intro @vst_min <|
  And.intro @vst_max <|
  And.intro @vst_load <|
  And.intro @vst_sub <|
  And.intro @vst_new <|
  And.intro @vst_box <|
  And.intro @vst_make <|
  And.intro @vst_lit <|
  And.intro @vst_store <|
  And.intro @vst_app <|
  And.intro @vst_copy <|
  And.intro @vst_clear <|
  And.intro @vst_call <|
  And.intro @vst_callv <|
  And.intro @vcallv_clo <|
  And.intro @vcont_app <|
  And.intro @von_some <|
  And.intro @vson_some <|
  And.intro @vdone_some <|
  And.intro @vapp_some <|
  And.intro @vput_app <|
  And.intro @vput_none <|
  And.intro @vev_tmp <|
  And.intro @vev_const <|
  And.intro @vev_func <|
  And.intro @inj_int <|
  And.intro @inj_bool <|
  And.intro @inj_str <|
  And.intro @inj_nil <|
  And.intro @inj_agg <|
  And.intro @inj1_int <|
  And.intro @inj1_bool <|
  And.intro @inj1_str <|
  And.intro @inj1_nil <|
  And.intro @vsc1_sc <|
  And.intro @vsc2_sc <|
  And.intro @vpick_sc <|
  And.intro @vext_tup <|
  And.intro @vlen_tree <|
  And.intro @vfaddr_t <|
  And.intro @vchk_t <|
  And.intro @vload_t <|
  And.intro @rd_sc <|
  And.intro @rd_tree <|
  And.intro @rd_ref <|
  And.intro @rd_clo <|
  And.intro @rd_fld <|
  And.intro @rd_all <|
  And.intro @List.length_map.{0, 0} <|
  And.intro @List.all_cons.{0} <|
  And.intro @List.all_nil.{0} <|
  And.intro @vscal_sc <|
  And.intro @Bool.and_self <|
  And.intro @Bool.and_true <|
  And.intro @cvtV_int <|
  And.intro @max_int <|
  And.intro @min_int <|
  And.intro @pbin_add <|
  And.intro @pbin_sub <|
  And.intro @pbin_mul <|
  And.intro @pbin_lss <|
  And.intro @pbin_leq <|
  And.intro @pbin_gtr <|
  And.intro @pbin_geq <|
  And.intro @pbin_eql <|
  And.intro @pbin_neq <|
  And.intro @pun_neg <|
  And.intro @pun_not <|
  And.intro @Value.bool.injEq <|
  And.intro @decide_eq_true_eq <|
  And.intro @decide_eq_false_iff_not <|
  And.intro @Bool.not_true <|
  And.intro @Bool.not_false <|
  And.intro @decide_true <|
  And.intro @decide_false <|
  And.intro @Bool.not_eq_true' <|
  And.intro @Bool.not_eq_false' <|
  And.intro @Bool.false_eq_true <|
  And.intro @false_and <|
  And.intro @and_false <|
  And.intro @Option.map_some.{0, 0} <|
  And.intro @Option.map_none.{0, 0} <|
  And.intro @if_true.{1} <|
  And.intro @if_false.{1} <|
  And.intro @List.map_cons.{0, 0} <|
  And.intro @List.map_nil.{0, 0} <|
  And.intro @List.cons_append.{0} <|
  And.intro @List.nil_append.{0} <|
  And.intro @and_true <|
  And.intro @true_and <|
  And.intro @Nat.zero_add <|
  And.intro @Nat.add_zero <|
  And.intro @List.length_cons.{0} <|
  And.intro @List.length_nil.{0} <|
  And.intro @vpenv_app <|
  And.intro @List.getD_cons_zero.{0} <|
  And.intro @List.getD_cons_succ.{0} <|
  And.intro @List.getD_nil.{0} <|
  And.intro @VV.sc.injEq <|
  And.intro @List.getElem?_cons_zero.{0} <|
  And.intro @List.getElem?_cons_succ.{0} <|
  And.intro @vscal_tree <|
  And.intro @vscal_ref <|
  And.intro @vscal_ptr <|
  And.intro @vscal_tptr <|
  And.intro @vscal_clo <|
  And.intro @vcells_sc <|
  And.intro @vcells_agg <|
  And.intro @vcells_tree <| @vcells_ref
end Go.PM
/- A function that looks at trees and hands back rows of its own: called where the trees are rows. -/
namespace Go.PM
mutual
def ownV (n : Nat) : VV → Bool
  | .any => false
  | .sc v => isSc v
  | .agg cs => ownL n cs
  | .tup vs => ownL n vs
  | .tree es k => es.isEmpty && decide (k = .nil)
  | .tptr _ _ => false
  | .ref b _ _ _ _ => decide (n ≤ b)
  | .ptr b _ _ _ => decide (n ≤ b)
  | .clo _ _ => false
def ownL (n : Nat) : List VV → Bool
  | [] => true
  | x :: xs => ownV n x && ownL n xs
end
theorem ownL_mem {n : Nat} {es : List VV} : ownL n es = true ↔ ∀ x ∈ es, ownV n x = true := by
  induction es with
  | nil => simp [ownL]
  | cons x xs ih => simp [ownL, ih]
theorem ownL_flat {n : Nat} {es : List VV} (h : ownL n es = true) : ownL n (es.flatMap vcells) = true := by
  rw [ownL_mem] at h ⊢
  intro x hx
  obtain ⟨y, hy, hxy⟩ := List.mem_flatMap.1 hx
  have := h y hy
  unfold vcells at hxy
  split at hxy
  · exact ownL_mem.1 (by simpa [ownV] using this) x hxy
  · rw [List.mem_singleton] at hxy; subst hxy; exact this
def rowsOwn (n : Nat) (L : VHeap) : Bool := L.all fun
  | .row _ es _ _ => ownL n es
  | .dead => true
theorem VR.own {V V' : View} {k0 : Nat} (hq0 : ∀ q, V.base ≤ q ∧ q < V.P.length → V'.base ≤ q ∧ q < V'.P.length ∧ ∀ b' g' es e w, b' < k0 → V'.H[b']? = some (.row g' es e w) → V'.m b' ≠ q) (hl : V.H.length ≤ V'.H.length) (hH : ∀ b, k0 ≤ b → V'.H[b]? = V.H[b]?) (hm : ∀ b, k0 ≤ b → V'.m b = V.m b) {x : VV} {v : Value} (h : VR V x v) : ownV k0 x = true → VR V' x v := by
  induction h using VR.rec (motive_2 := fun xs vs _ => ownL k0 xs = true → VL V' xs vs) with
  | any => intro hx; cases hx
  | sc _ h => intro _; exact .sc _ h
  | agg cs ps _ ih => intro hx; exact .agg _ _ (ih hx)
  | tup cs ps _ ih => intro hx; exact .tup _ _ (ih hx)
  | tnil k hk => intro _; exact .tnil k hk
  | tree es k b o c r e p hF hb ho hc he hk _ _ =>
    intro hx
    simp only [ownV, Bool.and_eq_true, decide_eq_true_eq] at hx
    obtain ⟨_, rfl⟩ := hx
    exact hk.elim
  | tptr => intro hx; cases hx
  | ref b g o n c a n' c' hlt hg ha hq =>
    intro hx
    have hb : k0 ≤ b := by simpa [ownV] using hx
    exact .ref b g o n c a n' c' (Nat.lt_of_lt_of_le hlt hl) (fun g' es e w hr => hg g' es e w (by rw [← hH b hb]; exact hr)) (fun es e w hr => by rw [hm b hb]; exact ha es e w (by rw [← hH b hb]; exact hr)) fun a0 h => by
      obtain ⟨q1, q2, q3⟩ := hq a0 h
      obtain ⟨q4, q5, q6⟩ := hq0 _ ⟨q1, q2⟩
      refine ⟨q4, q5, fun b' g' es e w hr hne => ?_⟩
      rcases Nat.lt_or_ge b' k0 with hlt' | hge
      · exact q6 b' g' es e w hlt' hr
      · rw [hm b' hge]
        exact q3 b' g' es e w (by rw [← hH b' hge]; exact hr) hne
  | ptr b g j off a hlt hg ha hq =>
    intro hx
    have hb : k0 ≤ b := by simpa [ownV] using hx
    exact .ptr b g j off a (Nat.lt_of_lt_of_le hlt hl) (fun g' es e w hr => hg g' es e w (by rw [← hH b hb]; exact hr)) (fun es e w hr => by rw [hm b hb]; exact ha es e w (by rw [← hH b hb]; exact hr)) fun a0 h => by
      obtain ⟨q1, q2, q3⟩ := hq a0 h
      obtain ⟨q4, q5, q6⟩ := hq0 _ ⟨q1, q2⟩
      refine ⟨q4, q5, fun b' g' es e w hr hne => ?_⟩
      rcases Nat.lt_or_ge b' k0 with hlt' | hge
      · exact q6 b' g' es e w hlt' hr
      · rw [hm b' hge]
        exact q3 b' g' es e w (by rw [← hH b' hge]; exact hr) hne
  | clo => intro hx; cases hx
  | nil => exact .nil
  | cons x v xs vs _ _ ih ihs =>
    rename_i hx
    simp only [ownL, Bool.and_eq_true] at hx
    exact .cons _ _ _ _ (ih hx.1) (ihs hx.2)
theorem VL.own {V V' : View} {n : Nat} (hq0 : ∀ q, V.base ≤ q ∧ q < V.P.length → V'.base ≤ q ∧ q < V'.P.length ∧ ∀ b' g' es e w, b' < n → V'.H[b']? = some (.row g' es e w) → V'.m b' ≠ q) (hl : V.H.length ≤ V'.H.length) (hH : ∀ b, n ≤ b → V'.H[b]? = V.H[b]?) (hm : ∀ b, n ≤ b → V'.m b = V.m b) {xs : List VV} {vs : List Value} (h : VL V xs vs) (hx : ownL n xs = true) : VL V' xs vs := by
  induction xs generalizing vs with
  | nil => cases h; exact .nil
  | cons x xs ih => cases h with
    | cons _ v _ vs h hs =>
      simp only [ownL, Bool.and_eq_true] at hx
      exact .cons _ _ _ _ (h.own hq0 hl hH hm hx.1) (ih hs hx.2)
theorem VL.ofBare {V' : View} {G : Nat → Prop} {P : Heap} {xs : List VV} {vs : List Value} (hF : ∀ b, G b → V'.F b ∧ V'.P[b]? = P[b]?) (h : VL (bare G P) xs vs) : VL V' xs vs := by
  induction xs generalizing vs with
  | nil => cases h; exact .nil
  | cons x xs ih => cases h with
    | cons _ v _ vs h hs => exact .cons _ _ _ _ (h.ofBare hF) (ih hs)
def FC (f : Nat) (args : List VV) (R : Nat → VV → VHeap → Prop) : Prop :=
  ∀ n, VRaw f args n (List.replicate n .dead) fun r H' => ∃ L, H' = List.replicate n .dead ++ L ∧ ownV n r = true ∧ rowsOwn n L = true ∧ R n r L
theorem FC.walk {f : Nat} {pf : PFunc} {args : List VV} {R : Nat → VV → VHeap → Prop} (fl : Fl) (ht : tab f = some pf) (hn : args.length ≤ pf.ntmps)
    (h : ∀ n, VW fl n pf.body (vretQ pf.res fun r H' => ∃ L, H' = List.replicate n .dead ++ L ∧ ownV n r = true ∧ rowsOwn n L = true ∧ R n r L) (vpenv args) (List.replicate n .dead)) : FC f args R :=
  fun n => VRaw.walk fl ht hn (h n)
theorem FC.raw {f : Nat} {args args' : List VV} {R : Nat → VV → VHeap → Prop} {H : VHeap} {lo : Nat} (h : FC f args' R) (hf : args.mapM (fz depth H) = some args') : VRaw f args lo H fun r H' => ∃ L, H' = H ++ L ∧ R H.length r L ∧ ownV H.length r = true ∧ rowsOwn H.length L = true := by
  intro V lop pargs hH hS hl
  have h1 := h H.length
  let V0 : View := { m := V.m, F := (· < V.P.length), H := List.replicate H.length .dead, P := V.P, base := V.P.length }
  have nodead : ∀ (b g : Nat) (es : List VV) (e : Nat) (w : Bool), V0.H[b]? ≠ some (.row g es e w) := by
    intro b g es e w hb
    have := List.eq_of_mem_replicate (List.mem_of_getElem? hb)
    cases this
  have hS0 : SR V0 H.length lop := ⟨fun b g es e w hb => absurd hb (nodead _ _ _ _ _), fun b g es e hb => absurd hb (nodead _ _ _ _ _), fun a b g es e w _ _ _ _ ha => absurd ha (nodead _ _ _ _ _), fun b hb => hb, hS.lol, Nat.le_refl _⟩
  have hl0 : VL V0 args' pargs := by
    have := fzL_sound hS (G := (· < V.P.length)) (fun q hq => hS.fr q hq) hl (by rw [hH]; exact hf) (fun i _ g es e w hb => hS.mlt hb)
    exact VL.ofBare (V' := V0) (fun b hb => ⟨hb, rfl⟩) this
  obtain ⟨pv, V1, r, k1, k3, k4, k5, L, k2, h2, h3, hR⟩ := h1 V0 lop pargs rfl hS0 hl0
  have hmnew : ∀ b g es e w, V1.H[b]? = some (.row g es e w) → V.P.length ≤ V1.m b := by
    intro b g es e w hb
    rcases Nat.lt_or_ge (V1.m b) V.P.length with hlt | hge
    · obtain ⟨g0, es0, w0, j1, _⟩ := k4.old b g es e w hb hlt
      exact absurd j1 (nodead _ _ _ _ _)
    · exact hge
  have hlen1 : V1.H.length = H.length + (L).length := by rw [k2]; simp
  have hkeep : ∀ q, q < V.P.length → V1.P[q]? = V.P[q]? := fun q hq => k4.keep q hq fun b g es e hb => absurd hb (nodead _ _ _ _ _)
  let V2 : View := { m := fun b => if b < H.length then V.m b else V1.m b, F := V.F, H := H ++ L, P := V1.P, base := V.base }
  have getL : ∀ b, H.length ≤ b → V2.H[b]? = V1.H[b]? := fun b hb => by
    show (H ++ L)[b]? = _
    rw [k2, List.getElem?_append_right hb, List.getElem?_append_right (by simpa using hb), List.length_replicate]
  have mL : ∀ b, H.length ≤ b → V2.m b = V1.m b := fun b hb => by
    show (if b < H.length then V.m b else V1.m b) = _
    rw [if_neg (by omega)]
  have getS : ∀ b, b < H.length → V2.H[b]? = V.H[b]? := fun b hb => by
    show (H ++ L)[b]? = _
    rw [List.getElem?_append_left hb, hH]
  have mS : ∀ b, b < H.length → V2.m b = V.m b := fun b hb => by
    show (if b < H.length then V.m b else V1.m b) = _
    rw [if_pos hb]
  have hU : Up V V2 := ⟨fun _ h => h, fun b hb => hkeep b (hS.fr b hb), by show V.H.length ≤ (H ++ L).length; rw [hH]; simp, fun b g es e w hlt hb => ⟨g, es, w, by rw [← getS b (by rw [← hH]; exact hlt)]; exact hb, Nat.le_refl _, fun _ => mS b (by rw [← hH]; exact hlt)⟩, rfl, k4.plen, fun b g es e w hb hm => by
      rcases Nat.lt_or_ge b H.length with h | h
      · exact ⟨g, es, w, by rw [← getS b h]; exact hb, mS b h, id⟩
      · rw [mL b h] at hm
        have := hmnew b g es e w (by rw [← getL b h]; exact hb)
        omega⟩
  have case2 : ∀ {b g es e w}, V2.H[b]? = some (.row g es e w) → (b < H.length ∧ V.H[b]? = some (.row g es e w)) ∨ (H.length ≤ b ∧ V1.H[b]? = some (.row g es e w)) := by
    intro b g es e w hb
    rcases Nat.lt_or_ge b H.length with h | h
    · exact .inl ⟨h, by rw [← getS b h]; exact hb⟩
    · exact .inr ⟨h, by rw [← getL b h]; exact hb⟩
  have hlen2 : V1.H.length ≤ V2.H.length := by show _ ≤ (H ++ L).length; rw [hlen1]; simp
  have hrow2 : ∀ {b g es e w}, H.length ≤ b → V1.H[b]? = some (.row g es e w) → ownL H.length es = true := by
    intro b g es e w hb hr
    rw [k2, List.getElem?_append_right (by simpa using hb)] at hr
    exact List.all_eq_true.1 h3 _ (List.mem_of_getElem? hr)
  have hq0 : ∀ q, V1.base ≤ q ∧ q < V1.P.length → V2.base ≤ q ∧ q < V2.P.length ∧ ∀ b' g' es e w, b' < H.length → V2.H[b']? = some (.row g' es e w) → V2.m b' ≠ q := by
    intro q hq
    have hb1 : V.P.length ≤ q := by have := k4.bas; rw [this] at hq; exact hq.1
    refine ⟨Nat.le_trans hS.bas hb1, hq.2, fun b' g' es e w hlt hr hm => ?_⟩
    rw [mS b' hlt] at hm
    have := hS.mlt (by rw [← getS b' hlt]; exact hr)
    omega
  refine ⟨pv, V2, r, k1, ⟨fun b g es e w hb => ?_, fun b g es e hb => ?_, fun a b g es e w g' es' e' w' ha hb hm => ?_, fun b hb => ?_, ?_, Nat.le_trans hS.bas k4.plen⟩, { hU with keep := fun q hq _ => hkeep q hq, fnew := fun q hq => .inl hq }, ?_, L, rfl, hR, h2, h3⟩
  · rcases case2 hb with ⟨h, hb⟩ | ⟨h, hb⟩
    · obtain ⟨r, p, j1, j2, j3⟩ := hS.row b g es e w hb
      exact ⟨r, p, by rw [mS b h]; exact (hkeep _ (hS.mlt hb)).trans j1, j2, j3.mono hU⟩
    · obtain ⟨r, p, j1, j2, j3⟩ := k3.row b g es e w hb
      exact ⟨r, p, by rw [mL b h]; exact j1, j2, j3.own hq0 hlen2 (fun b hb => getL b hb) (fun b hb => mL b hb) (ownL_flat (hrow2 h hb))⟩
  · rcases case2 hb with ⟨h, hb⟩ | ⟨h, hb⟩
    · rw [mS b h]
      exact hS.wr b g es e hb
    · rw [mL b h]
      have := hmnew b g es e true hb
      exact ⟨fun hF => by have := hS.fr _ hF; omega, fun _ => Nat.le_trans hS.lol this⟩
  · rcases case2 ha with ⟨h, ha⟩ | ⟨h, ha⟩ <;> rcases case2 hb with ⟨h', hb⟩ | ⟨h', hb⟩
    · rw [mS a h, mS b h'] at hm
      exact hS.inj a b _ _ _ _ _ _ _ _ ha hb hm
    · rw [mS a h, mL b h'] at hm
      have := hmnew b _ _ _ _ hb
      have := hS.mlt ha
      omega
    · rw [mL a h, mS b h'] at hm
      have := hmnew a _ _ _ _ ha
      have := hS.mlt hb
      omega
    · rw [mL a h, mL b h'] at hm
      exact k3.inj a b _ _ _ _ _ _ _ _ ha hb hm
  · exact Nat.lt_of_lt_of_le (hS.fr b hb) k4.plen
  · exact Nat.le_trans hS.lol k4.plen
  · exact k5.own hq0 hlen2 (fun b hb => getL b hb) (fun b hb => mL b hb) h2
theorem vcall_raw {f : Nat} {args : List VV} {lo : Nat} {H : VHeap} {K : VV → VHeap → Prop} (hraw : raws.contains f = true) (h : VRaw f args lo H K) : vcallP f args lo H K := by
  unfold vcallP
  rw [if_pos hraw]
  exact h
theorem FC.call {f : Nat} {args args' : List VV} {R : Nat → VV → VHeap → Prop} {H : VHeap} {lo : Nat} {K : VV → VHeap → Prop} (h : FC f args' R) (hraw : raws.contains f = true) (hf : args.mapM (fz depth H) = some args') (hk : ∀ r L, R H.length r L → K r (H ++ L)) : vcallP f args lo H K :=
  vcall_raw hraw ((h.raw hf).mono fun r H' ⟨L, h1, h2, _⟩ => by subst h1; exact hk r L h2)
end Go.PM
/- What the statements' own helpers for lists of numbers and of customers come to. -/
namespace Go.PM
def room (n : Nat) : Nat := if n % 6 = 5 then 0 else if n % 3 = 0 then 1 else n
abbrev nV (n : Int) : VV := .sc (.int .i64 n)
abbrev numsV (xs : List Int) : VV := listV nV xs
def filledS {α : Type} (fill : α) (xs : List α) : List α := xs ++ List.replicate (room xs.length) fill
def ToR {α : Type} (f : α → VV) (e : Nat) (fill : α) (xs : List α) (bare : Bool) (n : Nat) (r : VV) (L : VHeap) : Prop :=
  (bare = true ∧ xs = [] ∧ r = .tree [] .nil ∧ L = []) ∨ (r = .ref n 0 0 xs.length (xs.length + room xs.length) ∧ L = [.row 0 ((filledS fill xs).map f) e true])
theorem ToR.no {α : Type} {f : α → VV} {e : Nat} {fill : α} {xs : List α} {n : Nat} {r : VV} {L : VHeap} (h : ToR f e fill xs false n r L) : r = .ref n 0 0 xs.length (xs.length + room xs.length) ∧ L = [.row 0 ((filledS fill xs).map f) e true] := by
  rcases h with h | h
  · cases h.1
  · exact h
end Go.PM
/- Customers, as the statements hand them over. -/
namespace Go.PM
def cV (c : Cust) : VV := .agg [nV c.t, nV c.w, nV c.k]
theorem cV_len : ∀ c : Cust, (vcells (cV c)).length = 3 := fun _ => rfl
abbrev custsV (xs : List Cust) : VV := listV cV xs
theorem custsV_pure (xs : List Cust) : pureV (custsV xs) = true := pure_list cV_len fun _ => rfl
end Go.PM
/- How the statements hand lists over, and look at them: CustomerS. -/
namespace Go.PM
end Go.PM
/- How the statements hand lists over, and look at them: Int64S. -/
namespace Go.PM
end Go.PM
/- Laws' helpers: sizes and marks of customers; rows of longer heaps. -/
namespace Go.PM
theorem vrow_app {H L : VHeap} {b g : Nat} {x : List VV × Nat × Bool} (h : vrow H b g = some x) : vrow (H ++ L) b g = some x := by
  obtain ⟨es, e, w⟩ := x
  rw [vrow_some] at h ⊢
  rw [List.getElem?_append_left (List.getElem?_eq_some_iff.1 h).1]
  exact h
theorem vrow_set_ne {H : VHeap} {b b' g : Nat} {x : VBlk} {y : List VV × Nat × Bool} (hn : b' ≠ b) (h : vrow H b g = some y) : vrow (H.set b' x) b g = some y := by
  obtain ⟨es, e, w⟩ := y
  rw [vrow_some] at h ⊢
  rw [List.getElem?_set_ne hn]
  exact h
theorem vrow_set_eq {H : VHeap} {b g e : Nat} {es : List VV} {w : Bool} {y : List VV × Nat × Bool} {g' : Nat} (h : vrow H b g' = some y) : vrow (H.set b (.row g es e w)) b g = some (es, e, w) := by
  obtain ⟨es', e', w'⟩ := y
  rw [vrow_some] at h ⊢
  rw [List.getElem?_set_self (List.getElem?_eq_some_iff.1 h).1]
end Go.PM
/- The pure machine's form of functions, as the settings give it: G. -/
namespace Go.PM
def strings_Cut_c : PCode := (.seq (.reg [⟨(some 4), (.mv (.const (.string ⟨#[]⟩))), none, false, []⟩, ⟨(some 5), (.mv (.const (.string ⟨#[]⟩))), none, false, []⟩, ⟨(some 6), (.mv (.const (.bool false))), none, false, []⟩]) (.seq (.reg [⟨(some 7), (.mv (.tmp 0)), none, false, []⟩, ⟨(some 8), (.mv (.tmp 1)), none, false, []⟩, ⟨(some 9), (.call 148 [(.tmp 7), (.tmp 8)]), none, false, []⟩, ⟨(some 10), (.ext (.tmp 9) 0), none, false, []⟩, ⟨(some 11), (.ext (.tmp 9) 1), none, false, []⟩, ⟨(some 12), (.ext (.tmp 9) 2), none, false, []⟩, ⟨(some 4), (.mv (.tmp 10)), none, false, []⟩, ⟨(some 5), (.mv (.tmp 11)), none, false, []⟩, ⟨(some 6), (.mv (.tmp 12)), none, false, []⟩]) .ret))
def strings_Cut : PFunc := ⟨13, [(.tmp 4), (.tmp 5), (.tmp 6)], strings_Cut_c⟩
theorem strings_Cut_t : tab 128 = some strings_Cut := by kernel_rfl
def strings_CutPrefix_c : PCode := (.seq (.reg [⟨(some 4), (.mv (.const (.string ⟨#[]⟩))), none, false, []⟩, ⟨(some 5), (.mv (.const (.bool false))), none, false, []⟩]) (.seq (.reg [⟨(some 6), (.mv (.tmp 0)), none, false, []⟩, ⟨(some 7), (.mv (.tmp 1)), none, false, []⟩, ⟨(some 8), (.call 149 [(.tmp 6), (.tmp 7)]), none, false, []⟩, ⟨(some 9), (.ext (.tmp 8) 0), none, false, []⟩, ⟨(some 10), (.ext (.tmp 8) 1), none, false, []⟩, ⟨(some 4), (.mv (.tmp 9)), none, false, []⟩, ⟨(some 5), (.mv (.tmp 10)), none, false, []⟩]) .ret))
def strings_CutPrefix : PFunc := ⟨11, [(.tmp 4), (.tmp 5)], strings_CutPrefix_c⟩
theorem strings_CutPrefix_t : tab 129 = some strings_CutPrefix := by kernel_rfl
def slices_Reverse___string_string__b0 : PCode := (.seq (.seq (.reg [⟨(some 7), (.mv (.tmp 2)), none, false, []⟩, ⟨(some 8), (.mv (.tmp 3)), none, false, []⟩, ⟨(some 9), (.bin .lss (.tmp 7) (.tmp 8)), none, false, []⟩]) (.cond (.tmp 9) .skip (.exit 0))) (.seq (.block 1 (.reg [⟨(some 14), (.mv (.tmp 0)), none, false, []⟩, ⟨(some 15), (.mv (.tmp 2)), none, false, []⟩, ⟨(some 16), (.mv (.tmp 0)), none, false, []⟩, ⟨(some 17), (.mv (.tmp 3)), none, false, []⟩, ⟨(some 18), (.mv (.tmp 0)), none, false, []⟩, ⟨(some 19), (.mv (.tmp 3)), none, false, []⟩, ⟨(some 20), (.iaddr 1 (.tmp 18) (.tmp 19)), none, false, []⟩, ⟨(some 21), (.load false 1 (.tmp 20)), none, false, []⟩, ⟨(some 22), (.mv (.tmp 0)), none, false, []⟩, ⟨(some 23), (.mv (.tmp 2)), none, false, []⟩, ⟨(some 24), (.iaddr 1 (.tmp 22) (.tmp 23)), none, false, []⟩, ⟨(some 25), (.load false 1 (.tmp 24)), none, false, []⟩, ⟨(some 26), (.iaddr 1 (.tmp 14) (.tmp 15)), none, false, []⟩, ⟨none, (.store 1 (.tmp 26) (.tmp 21)), none, false, []⟩, ⟨(some 27), (.iaddr 1 (.tmp 16) (.tmp 17)), none, false, []⟩, ⟨none, (.store 1 (.tmp 27) (.tmp 25)), none, false, []⟩])) (.reg [⟨(some 10), (.mv (.tmp 2)), none, false, []⟩, ⟨(some 11), (.bin .add (.tmp 10) (.const (.int .i64 1))), none, false, []⟩, ⟨(some 12), (.mv (.tmp 3)), none, false, []⟩, ⟨(some 13), (.bin .sub (.tmp 12) (.const (.int .i64 1))), none, false, []⟩, ⟨(some 2), (.mv (.tmp 11)), none, false, []⟩, ⟨(some 3), (.mv (.tmp 13)), none, false, []⟩])))
def slices_Reverse___string_string__c : PCode := (.seq (.reg [⟨(some 4), (.mv (.tmp 0)), none, false, []⟩, ⟨(some 5), (.len (.tmp 4)), none, false, []⟩, ⟨(some 6), (.bin .sub (.tmp 5) (.const (.int .i64 1))), none, false, []⟩, ⟨(some 2), (.mv (.const (.int .i64 0))), none, false, []⟩, ⟨(some 3), (.mv (.tmp 6)), none, false, []⟩]) (.block 0 (.loop slices_Reverse___string_string__b0)))
def slices_Reverse___string_string_ : PFunc := ⟨28, [], slices_Reverse___string_string__c⟩
theorem slices_Reverse___string_string__t : tab 164 = some slices_Reverse___string_string_ := by kernel_rfl
def internal_stringslite_Cut_c : PCode := (.seq (.reg [⟨(some 4), (.mv (.const (.string ⟨#[]⟩))), none, false, []⟩, ⟨(some 5), (.mv (.const (.string ⟨#[]⟩))), none, false, []⟩, ⟨(some 6), (.mv (.const (.bool false))), none, false, []⟩]) (.seq (.seq (.reg [⟨(some 8), (.mv (.tmp 0)), none, false, []⟩, ⟨(some 9), (.mv (.tmp 1)), none, false, []⟩, ⟨(some 10), (.call 171 [(.tmp 8), (.tmp 9)]), none, false, []⟩, ⟨(some 7), (.mv (.tmp 10)), none, false, []⟩]) (.seq (.reg [⟨(some 11), (.mv (.tmp 7)), none, false, []⟩, ⟨(some 12), (.bin .geq (.tmp 11) (.const (.int .i64 0))), none, false, []⟩]) (.cond (.tmp 12) (.seq (.reg [⟨(some 13), (.mv (.tmp 0)), none, false, []⟩, ⟨(some 14), (.mv (.tmp 7)), none, false, []⟩, ⟨(some 15), (.ssub (.tmp 13) none (some (.tmp 14))), none, false, []⟩, ⟨(some 16), (.mv (.tmp 0)), none, false, []⟩, ⟨(some 17), (.mv (.tmp 7)), none, false, []⟩, ⟨(some 18), (.mv (.tmp 1)), none, false, []⟩, ⟨(some 19), (.slen (.tmp 18)), none, false, []⟩, ⟨(some 20), (.bin .add (.tmp 17) (.tmp 19)), none, false, []⟩, ⟨(some 21), (.ssub (.tmp 16) (some (.tmp 20)) none), none, false, []⟩, ⟨(some 4), (.mv (.tmp 15)), none, false, []⟩, ⟨(some 5), (.mv (.tmp 21)), none, false, []⟩, ⟨(some 6), (.mv (.const (.bool true))), none, false, []⟩]) .ret) .skip))) (.seq (.reg [⟨(some 22), (.mv (.tmp 0)), none, false, []⟩, ⟨(some 4), (.mv (.tmp 22)), none, false, []⟩, ⟨(some 5), (.mv (.const (.string ⟨#[]⟩))), none, false, []⟩, ⟨(some 6), (.mv (.const (.bool false))), none, false, []⟩]) .ret)))
def internal_stringslite_Cut : PFunc := ⟨23, [(.tmp 4), (.tmp 5), (.tmp 6)], internal_stringslite_Cut_c⟩
theorem internal_stringslite_Cut_t : tab 148 = some internal_stringslite_Cut := by kernel_rfl
def internal_stringslite_CutPrefix_c : PCode := (.seq (.reg [⟨(some 4), (.mv (.const (.string ⟨#[]⟩))), none, false, []⟩, ⟨(some 5), (.mv (.const (.bool false))), none, false, []⟩]) (.seq (.seq (.reg [⟨(some 6), (.mv (.tmp 0)), none, false, []⟩, ⟨(some 7), (.mv (.tmp 1)), none, false, []⟩, ⟨(some 8), (.call 172 [(.tmp 6), (.tmp 7)]), none, false, []⟩, ⟨(some 9), (.un .not (.tmp 8)), none, false, []⟩]) (.cond (.tmp 9) (.seq (.reg [⟨(some 10), (.mv (.tmp 0)), none, false, []⟩, ⟨(some 4), (.mv (.tmp 10)), none, false, []⟩, ⟨(some 5), (.mv (.const (.bool false))), none, false, []⟩]) .ret) .skip)) (.seq (.reg [⟨(some 11), (.mv (.tmp 0)), none, false, []⟩, ⟨(some 12), (.mv (.tmp 1)), none, false, []⟩, ⟨(some 13), (.slen (.tmp 12)), none, false, []⟩, ⟨(some 14), (.ssub (.tmp 11) (some (.tmp 13)) none), none, false, []⟩, ⟨(some 4), (.mv (.tmp 14)), none, false, []⟩, ⟨(some 5), (.mv (.const (.bool true))), none, false, []⟩]) .ret)))
def internal_stringslite_CutPrefix : PFunc := ⟨15, [(.tmp 4), (.tmp 5)], internal_stringslite_CutPrefix_c⟩
theorem internal_stringslite_CutPrefix_t : tab 149 = some internal_stringslite_CutPrefix := by kernel_rfl
def internal_stringslite_HasPrefix_c : PCode := (.seq (.reg [⟨(some 4), (.mv (.const (.bool false))), none, false, []⟩]) (.seq (.reg [⟨(some 5), (.mv (.tmp 0)), none, false, []⟩, ⟨(some 6), (.slen (.tmp 5)), none, false, []⟩, ⟨(some 7), (.mv (.tmp 1)), none, false, []⟩, ⟨(some 8), (.slen (.tmp 7)), none, false, []⟩, ⟨(some 9), (.bin .geq (.tmp 6) (.tmp 8)), none, false, []⟩, ⟨(some 10), (.mv (.tmp 9)), none, false, []⟩, ⟨(some 11), (.mv (.tmp 0)), (some (10, true)), false, []⟩, ⟨(some 12), (.mv (.tmp 1)), (some (10, true)), false, []⟩, ⟨(some 13), (.slen (.tmp 12)), (some (10, true)), false, []⟩, ⟨(some 14), (.ssub (.tmp 11) none (some (.tmp 13))), (some (10, true)), false, []⟩, ⟨(some 15), (.mv (.tmp 1)), (some (10, true)), false, []⟩, ⟨(some 16), (.bin .eql (.tmp 14) (.tmp 15)), (some (10, true)), false, []⟩, ⟨(some 17), (.pick (.tmp 10) (.tmp 16) (.const (.bool false))), none, false, []⟩, ⟨(some 4), (.mv (.tmp 17)), none, false, []⟩]) .ret))
def internal_stringslite_HasPrefix : PFunc := ⟨18, [(.tmp 4)], internal_stringslite_HasPrefix_c⟩
theorem internal_stringslite_HasPrefix_t : tab 172 = some internal_stringslite_HasPrefix := by kernel_rfl
def internal_strconv_small_c : PCode := (.seq (.reg [⟨(some 2), (.mv (.const (.string ⟨#[]⟩))), none, false, []⟩]) (.seq (.seq (.reg [⟨(some 3), (.mv (.tmp 0)), none, false, []⟩, ⟨(some 4), (.bin .lss (.tmp 3) (.const (.int .i64 10))), none, false, []⟩]) (.cond (.tmp 4) (.seq (.reg [⟨(some 5), (.mv (.tmp 0)), none, false, []⟩, ⟨(some 6), (.mv (.tmp 0)), none, false, []⟩, ⟨(some 7), (.bin .add (.tmp 6) (.const (.int .i64 1))), none, false, []⟩, ⟨(some 8), (.ssub (.const (.string ⟨#[48, 49, 50, 51, 52, 53, 54, 55, 56, 57, 97, 98, 99, 100, 101, 102, 103, 104, 105, 106, 107, 108, 109, 110, 111, 112, 113, 114, 115, 116, 117, 118, 119, 120, 121, 122]⟩)) (some (.tmp 5)) (some (.tmp 7))), none, false, []⟩, ⟨(some 2), (.mv (.tmp 8)), none, false, []⟩]) .ret) .skip)) (.seq (.reg [⟨(some 9), (.mv (.tmp 0)), none, false, []⟩, ⟨(some 10), (.bin .mul (.tmp 9) (.const (.int .i64 2))), none, false, []⟩, ⟨(some 11), (.mv (.tmp 0)), none, false, []⟩, ⟨(some 12), (.bin .mul (.tmp 11) (.const (.int .i64 2))), none, false, []⟩, ⟨(some 13), (.bin .add (.tmp 12) (.const (.int .i64 2))), none, false, []⟩, ⟨(some 14), (.ssub (.const (.string ⟨#[48, 48, 48, 49, 48, 50, 48, 51, 48, 52, 48, 53, 48, 54, 48, 55, 48, 56, 48, 57, 49, 48, 49, 49, 49, 50, 49, 51, 49, 52, 49, 53, 49, 54, 49, 55, 49, 56, 49, 57, 50, 48, 50, 49, 50, 50, 50, 51, 50, 52, 50, 53, 50, 54, 50, 55, 50, 56, 50, 57, 51, 48, 51, 49, 51, 50, 51, 51, 51, 52, 51, 53, 51, 54, 51, 55, 51, 56, 51, 57, 52, 48, 52, 49, 52, 50, 52, 51, 52, 52, 52, 53, 52, 54, 52, 55, 52, 56, 52, 57, 53, 48, 53, 49, 53, 50, 53, 51, 53, 52, 53, 53, 53, 54, 53, 55, 53, 56, 53, 57, 54, 48, 54, 49, 54, 50, 54, 51, 54, 52, 54, 53, 54, 54, 54, 55, 54, 56, 54, 57, 55, 48, 55, 49, 55, 50, 55, 51, 55, 52, 55, 53, 55, 54, 55, 55, 55, 56, 55, 57, 56, 48, 56, 49, 56, 50, 56, 51, 56, 52, 56, 53, 56, 54, 56, 55, 56, 56, 56, 57, 57, 48, 57, 49, 57, 50, 57, 51, 57, 52, 57, 53, 57, 54, 57, 55, 57, 56, 57, 57]⟩)) (some (.tmp 10)) (some (.tmp 13))), none, false, []⟩, ⟨(some 2), (.mv (.tmp 14)), none, false, []⟩]) .ret)))
def internal_strconv_small : PFunc := ⟨15, [(.tmp 2)], internal_strconv_small_c⟩
def internal_strconv_formatBase10_b0 : PCode := (.seq (.seq (.reg [⟨(some 19), (.mv (.tmp 4)), none, false, []⟩, ⟨(some 20), (.bin .geq (.tmp 19) (.const (.int .i64 8))), none, false, []⟩]) (.cond (.tmp 20) .skip (.exit 0))) (.block 1 (.seq (.reg [⟨(some 21), (.mv (.tmp 1)), none, false, []⟩, ⟨(some 22), (.bin .rem (.tmp 21) (.const (.int .u64 100000000))), none, false, []⟩, ⟨(some 23), (.cvt .u32 (.tmp 22)), none, false, []⟩, ⟨(some 5), (.mv (.tmp 23)), none, false, []⟩]) (.seq (.reg [⟨(some 24), (.mv (.tmp 1)), none, false, []⟩, ⟨(some 25), (.bin .quo (.tmp 24) (.const (.int .u64 100000000))), none, false, []⟩, ⟨(some 1), (.mv (.tmp 25)), none, false, []⟩]) (.seq (.reg [⟨(some 26), (.mv (.tmp 5)), none, false, []⟩, ⟨(some 27), (.bin .quo (.tmp 26) (.const (.int .u32 10000))), none, false, []⟩, ⟨(some 28), (.mv (.tmp 5)), none, false, []⟩, ⟨(some 29), (.bin .rem (.tmp 28) (.const (.int .u32 10000))), none, false, []⟩, ⟨(some 6), (.mv (.tmp 27)), none, false, []⟩, ⟨(some 7), (.mv (.tmp 29)), none, false, []⟩]) (.seq (.reg [⟨(some 30), (.mv (.tmp 7)), none, false, []⟩, ⟨(some 31), (.bin .quo (.tmp 30) (.const (.int .u32 100))), none, false, []⟩, ⟨(some 32), (.bin .mul (.tmp 31) (.const (.int .u32 2))), none, false, []⟩, ⟨(some 33), (.mv (.tmp 7)), none, false, []⟩, ⟨(some 34), (.bin .rem (.tmp 33) (.const (.int .u32 100))), none, false, []⟩, ⟨(some 35), (.bin .mul (.tmp 34) (.const (.int .u32 2))), none, false, []⟩, ⟨(some 8), (.mv (.tmp 32)), none, false, []⟩, ⟨(some 9), (.mv (.tmp 35)), none, false, []⟩]) (.seq (.reg [⟨(some 36), (.mv (.tmp 6)), none, false, []⟩, ⟨(some 37), (.bin .quo (.tmp 36) (.const (.int .u32 100))), none, false, []⟩, ⟨(some 38), (.bin .mul (.tmp 37) (.const (.int .u32 2))), none, false, []⟩, ⟨(some 39), (.mv (.tmp 6)), none, false, []⟩, ⟨(some 40), (.bin .rem (.tmp 39) (.const (.int .u32 100))), none, false, []⟩, ⟨(some 41), (.bin .mul (.tmp 40) (.const (.int .u32 2))), none, false, []⟩, ⟨(some 10), (.mv (.tmp 38)), none, false, []⟩, ⟨(some 11), (.mv (.tmp 41)), none, false, []⟩]) (.seq (.reg [⟨(some 42), (.mv (.tmp 0)), none, false, []⟩, ⟨(some 43), (.mv (.tmp 4)), none, false, []⟩, ⟨(some 44), (.bin .sub (.tmp 43) (.const (.int .i64 1))), none, false, []⟩, ⟨(some 45), (.mv (.tmp 0)), none, false, []⟩, ⟨(some 46), (.mv (.tmp 4)), none, false, []⟩, ⟨(some 47), (.bin .sub (.tmp 46) (.const (.int .i64 2))), none, false, []⟩, ⟨(some 48), (.mv (.tmp 9)), none, false, []⟩, ⟨(some 49), (.bin .add (.tmp 48) (.const (.int .u32 1))), none, false, []⟩, ⟨(some 50), (.sidx (.const (.string ⟨#[48, 48, 48, 49, 48, 50, 48, 51, 48, 52, 48, 53, 48, 54, 48, 55, 48, 56, 48, 57, 49, 48, 49, 49, 49, 50, 49, 51, 49, 52, 49, 53, 49, 54, 49, 55, 49, 56, 49, 57, 50, 48, 50, 49, 50, 50, 50, 51, 50, 52, 50, 53, 50, 54, 50, 55, 50, 56, 50, 57, 51, 48, 51, 49, 51, 50, 51, 51, 51, 52, 51, 53, 51, 54, 51, 55, 51, 56, 51, 57, 52, 48, 52, 49, 52, 50, 52, 51, 52, 52, 52, 53, 52, 54, 52, 55, 52, 56, 52, 57, 53, 48, 53, 49, 53, 50, 53, 51, 53, 52, 53, 53, 53, 54, 53, 55, 53, 56, 53, 57, 54, 48, 54, 49, 54, 50, 54, 51, 54, 52, 54, 53, 54, 54, 54, 55, 54, 56, 54, 57, 55, 48, 55, 49, 55, 50, 55, 51, 55, 52, 55, 53, 55, 54, 55, 55, 55, 56, 55, 57, 56, 48, 56, 49, 56, 50, 56, 51, 56, 52, 56, 53, 56, 54, 56, 55, 56, 56, 56, 57, 57, 48, 57, 49, 57, 50, 57, 51, 57, 52, 57, 53, 57, 54, 57, 55, 57, 56, 57, 57]⟩)) (.tmp 49)), none, false, []⟩, ⟨(some 51), (.mv (.tmp 9)), none, false, []⟩, ⟨(some 52), (.sidx (.const (.string ⟨#[48, 48, 48, 49, 48, 50, 48, 51, 48, 52, 48, 53, 48, 54, 48, 55, 48, 56, 48, 57, 49, 48, 49, 49, 49, 50, 49, 51, 49, 52, 49, 53, 49, 54, 49, 55, 49, 56, 49, 57, 50, 48, 50, 49, 50, 50, 50, 51, 50, 52, 50, 53, 50, 54, 50, 55, 50, 56, 50, 57, 51, 48, 51, 49, 51, 50, 51, 51, 51, 52, 51, 53, 51, 54, 51, 55, 51, 56, 51, 57, 52, 48, 52, 49, 52, 50, 52, 51, 52, 52, 52, 53, 52, 54, 52, 55, 52, 56, 52, 57, 53, 48, 53, 49, 53, 50, 53, 51, 53, 52, 53, 53, 53, 54, 53, 55, 53, 56, 53, 57, 54, 48, 54, 49, 54, 50, 54, 51, 54, 52, 54, 53, 54, 54, 54, 55, 54, 56, 54, 57, 55, 48, 55, 49, 55, 50, 55, 51, 55, 52, 55, 53, 55, 54, 55, 55, 55, 56, 55, 57, 56, 48, 56, 49, 56, 50, 56, 51, 56, 52, 56, 53, 56, 54, 56, 55, 56, 56, 56, 57, 57, 48, 57, 49, 57, 50, 57, 51, 57, 52, 57, 53, 57, 54, 57, 55, 57, 56, 57, 57]⟩)) (.tmp 51)), none, false, []⟩, ⟨(some 53), (.iaddr 1 (.tmp 42) (.tmp 44)), none, false, []⟩, ⟨none, (.store 1 (.tmp 53) (.tmp 50)), none, false, []⟩, ⟨(some 54), (.iaddr 1 (.tmp 45) (.tmp 47)), none, false, []⟩, ⟨none, (.store 1 (.tmp 54) (.tmp 52)), none, false, []⟩]) (.seq (.reg [⟨(some 55), (.mv (.tmp 0)), none, false, []⟩, ⟨(some 56), (.mv (.tmp 4)), none, false, []⟩, ⟨(some 57), (.bin .sub (.tmp 56) (.const (.int .i64 3))), none, false, []⟩, ⟨(some 58), (.mv (.tmp 0)), none, false, []⟩, ⟨(some 59), (.mv (.tmp 4)), none, false, []⟩, ⟨(some 60), (.bin .sub (.tmp 59) (.const (.int .i64 4))), none, false, []⟩, ⟨(some 61), (.mv (.tmp 8)), none, false, []⟩, ⟨(some 62), (.bin .add (.tmp 61) (.const (.int .u32 1))), none, false, []⟩, ⟨(some 63), (.sidx (.const (.string ⟨#[48, 48, 48, 49, 48, 50, 48, 51, 48, 52, 48, 53, 48, 54, 48, 55, 48, 56, 48, 57, 49, 48, 49, 49, 49, 50, 49, 51, 49, 52, 49, 53, 49, 54, 49, 55, 49, 56, 49, 57, 50, 48, 50, 49, 50, 50, 50, 51, 50, 52, 50, 53, 50, 54, 50, 55, 50, 56, 50, 57, 51, 48, 51, 49, 51, 50, 51, 51, 51, 52, 51, 53, 51, 54, 51, 55, 51, 56, 51, 57, 52, 48, 52, 49, 52, 50, 52, 51, 52, 52, 52, 53, 52, 54, 52, 55, 52, 56, 52, 57, 53, 48, 53, 49, 53, 50, 53, 51, 53, 52, 53, 53, 53, 54, 53, 55, 53, 56, 53, 57, 54, 48, 54, 49, 54, 50, 54, 51, 54, 52, 54, 53, 54, 54, 54, 55, 54, 56, 54, 57, 55, 48, 55, 49, 55, 50, 55, 51, 55, 52, 55, 53, 55, 54, 55, 55, 55, 56, 55, 57, 56, 48, 56, 49, 56, 50, 56, 51, 56, 52, 56, 53, 56, 54, 56, 55, 56, 56, 56, 57, 57, 48, 57, 49, 57, 50, 57, 51, 57, 52, 57, 53, 57, 54, 57, 55, 57, 56, 57, 57]⟩)) (.tmp 62)), none, false, []⟩, ⟨(some 64), (.mv (.tmp 8)), none, false, []⟩, ⟨(some 65), (.sidx (.const (.string ⟨#[48, 48, 48, 49, 48, 50, 48, 51, 48, 52, 48, 53, 48, 54, 48, 55, 48, 56, 48, 57, 49, 48, 49, 49, 49, 50, 49, 51, 49, 52, 49, 53, 49, 54, 49, 55, 49, 56, 49, 57, 50, 48, 50, 49, 50, 50, 50, 51, 50, 52, 50, 53, 50, 54, 50, 55, 50, 56, 50, 57, 51, 48, 51, 49, 51, 50, 51, 51, 51, 52, 51, 53, 51, 54, 51, 55, 51, 56, 51, 57, 52, 48, 52, 49, 52, 50, 52, 51, 52, 52, 52, 53, 52, 54, 52, 55, 52, 56, 52, 57, 53, 48, 53, 49, 53, 50, 53, 51, 53, 52, 53, 53, 53, 54, 53, 55, 53, 56, 53, 57, 54, 48, 54, 49, 54, 50, 54, 51, 54, 52, 54, 53, 54, 54, 54, 55, 54, 56, 54, 57, 55, 48, 55, 49, 55, 50, 55, 51, 55, 52, 55, 53, 55, 54, 55, 55, 55, 56, 55, 57, 56, 48, 56, 49, 56, 50, 56, 51, 56, 52, 56, 53, 56, 54, 56, 55, 56, 56, 56, 57, 57, 48, 57, 49, 57, 50, 57, 51, 57, 52, 57, 53, 57, 54, 57, 55, 57, 56, 57, 57]⟩)) (.tmp 64)), none, false, []⟩, ⟨(some 66), (.iaddr 1 (.tmp 55) (.tmp 57)), none, false, []⟩, ⟨none, (.store 1 (.tmp 66) (.tmp 63)), none, false, []⟩, ⟨(some 67), (.iaddr 1 (.tmp 58) (.tmp 60)), none, false, []⟩, ⟨none, (.store 1 (.tmp 67) (.tmp 65)), none, false, []⟩]) (.seq (.reg [⟨(some 68), (.mv (.tmp 0)), none, false, []⟩, ⟨(some 69), (.mv (.tmp 4)), none, false, []⟩, ⟨(some 70), (.bin .sub (.tmp 69) (.const (.int .i64 5))), none, false, []⟩, ⟨(some 71), (.mv (.tmp 0)), none, false, []⟩, ⟨(some 72), (.mv (.tmp 4)), none, false, []⟩, ⟨(some 73), (.bin .sub (.tmp 72) (.const (.int .i64 6))), none, false, []⟩, ⟨(some 74), (.mv (.tmp 11)), none, false, []⟩, ⟨(some 75), (.bin .add (.tmp 74) (.const (.int .u32 1))), none, false, []⟩, ⟨(some 76), (.sidx (.const (.string ⟨#[48, 48, 48, 49, 48, 50, 48, 51, 48, 52, 48, 53, 48, 54, 48, 55, 48, 56, 48, 57, 49, 48, 49, 49, 49, 50, 49, 51, 49, 52, 49, 53, 49, 54, 49, 55, 49, 56, 49, 57, 50, 48, 50, 49, 50, 50, 50, 51, 50, 52, 50, 53, 50, 54, 50, 55, 50, 56, 50, 57, 51, 48, 51, 49, 51, 50, 51, 51, 51, 52, 51, 53, 51, 54, 51, 55, 51, 56, 51, 57, 52, 48, 52, 49, 52, 50, 52, 51, 52, 52, 52, 53, 52, 54, 52, 55, 52, 56, 52, 57, 53, 48, 53, 49, 53, 50, 53, 51, 53, 52, 53, 53, 53, 54, 53, 55, 53, 56, 53, 57, 54, 48, 54, 49, 54, 50, 54, 51, 54, 52, 54, 53, 54, 54, 54, 55, 54, 56, 54, 57, 55, 48, 55, 49, 55, 50, 55, 51, 55, 52, 55, 53, 55, 54, 55, 55, 55, 56, 55, 57, 56, 48, 56, 49, 56, 50, 56, 51, 56, 52, 56, 53, 56, 54, 56, 55, 56, 56, 56, 57, 57, 48, 57, 49, 57, 50, 57, 51, 57, 52, 57, 53, 57, 54, 57, 55, 57, 56, 57, 57]⟩)) (.tmp 75)), none, false, []⟩, ⟨(some 77), (.mv (.tmp 11)), none, false, []⟩, ⟨(some 78), (.sidx (.const (.string ⟨#[48, 48, 48, 49, 48, 50, 48, 51, 48, 52, 48, 53, 48, 54, 48, 55, 48, 56, 48, 57, 49, 48, 49, 49, 49, 50, 49, 51, 49, 52, 49, 53, 49, 54, 49, 55, 49, 56, 49, 57, 50, 48, 50, 49, 50, 50, 50, 51, 50, 52, 50, 53, 50, 54, 50, 55, 50, 56, 50, 57, 51, 48, 51, 49, 51, 50, 51, 51, 51, 52, 51, 53, 51, 54, 51, 55, 51, 56, 51, 57, 52, 48, 52, 49, 52, 50, 52, 51, 52, 52, 52, 53, 52, 54, 52, 55, 52, 56, 52, 57, 53, 48, 53, 49, 53, 50, 53, 51, 53, 52, 53, 53, 53, 54, 53, 55, 53, 56, 53, 57, 54, 48, 54, 49, 54, 50, 54, 51, 54, 52, 54, 53, 54, 54, 54, 55, 54, 56, 54, 57, 55, 48, 55, 49, 55, 50, 55, 51, 55, 52, 55, 53, 55, 54, 55, 55, 55, 56, 55, 57, 56, 48, 56, 49, 56, 50, 56, 51, 56, 52, 56, 53, 56, 54, 56, 55, 56, 56, 56, 57, 57, 48, 57, 49, 57, 50, 57, 51, 57, 52, 57, 53, 57, 54, 57, 55, 57, 56, 57, 57]⟩)) (.tmp 77)), none, false, []⟩, ⟨(some 79), (.iaddr 1 (.tmp 68) (.tmp 70)), none, false, []⟩, ⟨none, (.store 1 (.tmp 79) (.tmp 76)), none, false, []⟩, ⟨(some 80), (.iaddr 1 (.tmp 71) (.tmp 73)), none, false, []⟩, ⟨none, (.store 1 (.tmp 80) (.tmp 78)), none, false, []⟩]) (.seq (.reg [⟨(some 81), (.mv (.tmp 0)), none, false, []⟩, ⟨(some 82), (.mv (.tmp 4)), none, false, []⟩, ⟨(some 83), (.bin .sub (.tmp 82) (.const (.int .i64 7))), none, false, []⟩, ⟨(some 84), (.mv (.tmp 0)), none, false, []⟩, ⟨(some 85), (.mv (.tmp 4)), none, false, []⟩, ⟨(some 86), (.bin .sub (.tmp 85) (.const (.int .i64 8))), none, false, []⟩, ⟨(some 87), (.mv (.tmp 10)), none, false, []⟩, ⟨(some 88), (.bin .add (.tmp 87) (.const (.int .u32 1))), none, false, []⟩, ⟨(some 89), (.sidx (.const (.string ⟨#[48, 48, 48, 49, 48, 50, 48, 51, 48, 52, 48, 53, 48, 54, 48, 55, 48, 56, 48, 57, 49, 48, 49, 49, 49, 50, 49, 51, 49, 52, 49, 53, 49, 54, 49, 55, 49, 56, 49, 57, 50, 48, 50, 49, 50, 50, 50, 51, 50, 52, 50, 53, 50, 54, 50, 55, 50, 56, 50, 57, 51, 48, 51, 49, 51, 50, 51, 51, 51, 52, 51, 53, 51, 54, 51, 55, 51, 56, 51, 57, 52, 48, 52, 49, 52, 50, 52, 51, 52, 52, 52, 53, 52, 54, 52, 55, 52, 56, 52, 57, 53, 48, 53, 49, 53, 50, 53, 51, 53, 52, 53, 53, 53, 54, 53, 55, 53, 56, 53, 57, 54, 48, 54, 49, 54, 50, 54, 51, 54, 52, 54, 53, 54, 54, 54, 55, 54, 56, 54, 57, 55, 48, 55, 49, 55, 50, 55, 51, 55, 52, 55, 53, 55, 54, 55, 55, 55, 56, 55, 57, 56, 48, 56, 49, 56, 50, 56, 51, 56, 52, 56, 53, 56, 54, 56, 55, 56, 56, 56, 57, 57, 48, 57, 49, 57, 50, 57, 51, 57, 52, 57, 53, 57, 54, 57, 55, 57, 56, 57, 57]⟩)) (.tmp 88)), none, false, []⟩, ⟨(some 90), (.mv (.tmp 10)), none, false, []⟩, ⟨(some 91), (.sidx (.const (.string ⟨#[48, 48, 48, 49, 48, 50, 48, 51, 48, 52, 48, 53, 48, 54, 48, 55, 48, 56, 48, 57, 49, 48, 49, 49, 49, 50, 49, 51, 49, 52, 49, 53, 49, 54, 49, 55, 49, 56, 49, 57, 50, 48, 50, 49, 50, 50, 50, 51, 50, 52, 50, 53, 50, 54, 50, 55, 50, 56, 50, 57, 51, 48, 51, 49, 51, 50, 51, 51, 51, 52, 51, 53, 51, 54, 51, 55, 51, 56, 51, 57, 52, 48, 52, 49, 52, 50, 52, 51, 52, 52, 52, 53, 52, 54, 52, 55, 52, 56, 52, 57, 53, 48, 53, 49, 53, 50, 53, 51, 53, 52, 53, 53, 53, 54, 53, 55, 53, 56, 53, 57, 54, 48, 54, 49, 54, 50, 54, 51, 54, 52, 54, 53, 54, 54, 54, 55, 54, 56, 54, 57, 55, 48, 55, 49, 55, 50, 55, 51, 55, 52, 55, 53, 55, 54, 55, 55, 55, 56, 55, 57, 56, 48, 56, 49, 56, 50, 56, 51, 56, 52, 56, 53, 56, 54, 56, 55, 56, 56, 56, 57, 57, 48, 57, 49, 57, 50, 57, 51, 57, 52, 57, 53, 57, 54, 57, 55, 57, 56, 57, 57]⟩)) (.tmp 90)), none, false, []⟩, ⟨(some 92), (.iaddr 1 (.tmp 81) (.tmp 83)), none, false, []⟩, ⟨none, (.store 1 (.tmp 92) (.tmp 89)), none, false, []⟩, ⟨(some 93), (.iaddr 1 (.tmp 84) (.tmp 86)), none, false, []⟩, ⟨none, (.store 1 (.tmp 93) (.tmp 91)), none, false, []⟩]) (.reg [⟨(some 94), (.mv (.tmp 4)), none, false, []⟩, ⟨(some 95), (.bin .sub (.tmp 94) (.const (.int .i64 8))), none, false, []⟩, ⟨(some 4), (.mv (.tmp 95)), none, false, []⟩]))))))))))))
def internal_strconv_formatBase10_c : PCode := (.seq (.reg [⟨(some 17), (.mv (.tmp 0)), none, false, []⟩, ⟨(some 18), (.len (.tmp 17)), none, false, []⟩, ⟨(some 4), (.mv (.tmp 18)), none, false, []⟩]) (.seq (.block 0 (.loop internal_strconv_formatBase10_b0)) (.seq (.reg [⟨(some 96), (.mv (.tmp 1)), none, false, []⟩, ⟨(some 97), (.cvt .u32 (.tmp 96)), none, false, []⟩, ⟨(some 12), (.mv (.tmp 97)), none, false, []⟩]) (.seq (.seq (.reg [⟨(some 98), (.mv (.tmp 4)), none, false, []⟩, ⟨(some 99), (.bin .geq (.tmp 98) (.const (.int .i64 4))), none, false, []⟩]) (.cond (.tmp 99) (.seq (.reg [⟨(some 100), (.mv (.tmp 12)), none, false, []⟩, ⟨(some 101), (.bin .rem (.tmp 100) (.const (.int .u32 10000))), none, false, []⟩, ⟨(some 13), (.mv (.tmp 101)), none, false, []⟩]) (.seq (.reg [⟨(some 102), (.mv (.tmp 12)), none, false, []⟩, ⟨(some 103), (.bin .quo (.tmp 102) (.const (.int .u32 10000))), none, false, []⟩, ⟨(some 12), (.mv (.tmp 103)), none, false, []⟩]) (.seq (.reg [⟨(some 104), (.mv (.tmp 13)), none, false, []⟩, ⟨(some 105), (.bin .quo (.tmp 104) (.const (.int .u32 100))), none, false, []⟩, ⟨(some 106), (.bin .mul (.tmp 105) (.const (.int .u32 2))), none, false, []⟩, ⟨(some 107), (.mv (.tmp 13)), none, false, []⟩, ⟨(some 108), (.bin .rem (.tmp 107) (.const (.int .u32 100))), none, false, []⟩, ⟨(some 109), (.bin .mul (.tmp 108) (.const (.int .u32 2))), none, false, []⟩, ⟨(some 14), (.mv (.tmp 106)), none, false, []⟩, ⟨(some 15), (.mv (.tmp 109)), none, false, []⟩]) (.seq (.reg [⟨(some 110), (.mv (.tmp 0)), none, false, []⟩, ⟨(some 111), (.mv (.tmp 4)), none, false, []⟩, ⟨(some 112), (.bin .sub (.tmp 111) (.const (.int .i64 1))), none, false, []⟩, ⟨(some 113), (.mv (.tmp 0)), none, false, []⟩, ⟨(some 114), (.mv (.tmp 4)), none, false, []⟩, ⟨(some 115), (.bin .sub (.tmp 114) (.const (.int .i64 2))), none, false, []⟩, ⟨(some 116), (.mv (.tmp 15)), none, false, []⟩, ⟨(some 117), (.bin .add (.tmp 116) (.const (.int .u32 1))), none, false, []⟩, ⟨(some 118), (.sidx (.const (.string ⟨#[48, 48, 48, 49, 48, 50, 48, 51, 48, 52, 48, 53, 48, 54, 48, 55, 48, 56, 48, 57, 49, 48, 49, 49, 49, 50, 49, 51, 49, 52, 49, 53, 49, 54, 49, 55, 49, 56, 49, 57, 50, 48, 50, 49, 50, 50, 50, 51, 50, 52, 50, 53, 50, 54, 50, 55, 50, 56, 50, 57, 51, 48, 51, 49, 51, 50, 51, 51, 51, 52, 51, 53, 51, 54, 51, 55, 51, 56, 51, 57, 52, 48, 52, 49, 52, 50, 52, 51, 52, 52, 52, 53, 52, 54, 52, 55, 52, 56, 52, 57, 53, 48, 53, 49, 53, 50, 53, 51, 53, 52, 53, 53, 53, 54, 53, 55, 53, 56, 53, 57, 54, 48, 54, 49, 54, 50, 54, 51, 54, 52, 54, 53, 54, 54, 54, 55, 54, 56, 54, 57, 55, 48, 55, 49, 55, 50, 55, 51, 55, 52, 55, 53, 55, 54, 55, 55, 55, 56, 55, 57, 56, 48, 56, 49, 56, 50, 56, 51, 56, 52, 56, 53, 56, 54, 56, 55, 56, 56, 56, 57, 57, 48, 57, 49, 57, 50, 57, 51, 57, 52, 57, 53, 57, 54, 57, 55, 57, 56, 57, 57]⟩)) (.tmp 117)), none, false, []⟩, ⟨(some 119), (.mv (.tmp 15)), none, false, []⟩, ⟨(some 120), (.sidx (.const (.string ⟨#[48, 48, 48, 49, 48, 50, 48, 51, 48, 52, 48, 53, 48, 54, 48, 55, 48, 56, 48, 57, 49, 48, 49, 49, 49, 50, 49, 51, 49, 52, 49, 53, 49, 54, 49, 55, 49, 56, 49, 57, 50, 48, 50, 49, 50, 50, 50, 51, 50, 52, 50, 53, 50, 54, 50, 55, 50, 56, 50, 57, 51, 48, 51, 49, 51, 50, 51, 51, 51, 52, 51, 53, 51, 54, 51, 55, 51, 56, 51, 57, 52, 48, 52, 49, 52, 50, 52, 51, 52, 52, 52, 53, 52, 54, 52, 55, 52, 56, 52, 57, 53, 48, 53, 49, 53, 50, 53, 51, 53, 52, 53, 53, 53, 54, 53, 55, 53, 56, 53, 57, 54, 48, 54, 49, 54, 50, 54, 51, 54, 52, 54, 53, 54, 54, 54, 55, 54, 56, 54, 57, 55, 48, 55, 49, 55, 50, 55, 51, 55, 52, 55, 53, 55, 54, 55, 55, 55, 56, 55, 57, 56, 48, 56, 49, 56, 50, 56, 51, 56, 52, 56, 53, 56, 54, 56, 55, 56, 56, 56, 57, 57, 48, 57, 49, 57, 50, 57, 51, 57, 52, 57, 53, 57, 54, 57, 55, 57, 56, 57, 57]⟩)) (.tmp 119)), none, false, []⟩, ⟨(some 121), (.iaddr 1 (.tmp 110) (.tmp 112)), none, false, []⟩, ⟨none, (.store 1 (.tmp 121) (.tmp 118)), none, false, []⟩, ⟨(some 122), (.iaddr 1 (.tmp 113) (.tmp 115)), none, false, []⟩, ⟨none, (.store 1 (.tmp 122) (.tmp 120)), none, false, []⟩]) (.seq (.reg [⟨(some 123), (.mv (.tmp 0)), none, false, []⟩, ⟨(some 124), (.mv (.tmp 4)), none, false, []⟩, ⟨(some 125), (.bin .sub (.tmp 124) (.const (.int .i64 3))), none, false, []⟩, ⟨(some 126), (.mv (.tmp 0)), none, false, []⟩, ⟨(some 127), (.mv (.tmp 4)), none, false, []⟩, ⟨(some 128), (.bin .sub (.tmp 127) (.const (.int .i64 4))), none, false, []⟩, ⟨(some 129), (.mv (.tmp 14)), none, false, []⟩, ⟨(some 130), (.bin .add (.tmp 129) (.const (.int .u32 1))), none, false, []⟩, ⟨(some 131), (.sidx (.const (.string ⟨#[48, 48, 48, 49, 48, 50, 48, 51, 48, 52, 48, 53, 48, 54, 48, 55, 48, 56, 48, 57, 49, 48, 49, 49, 49, 50, 49, 51, 49, 52, 49, 53, 49, 54, 49, 55, 49, 56, 49, 57, 50, 48, 50, 49, 50, 50, 50, 51, 50, 52, 50, 53, 50, 54, 50, 55, 50, 56, 50, 57, 51, 48, 51, 49, 51, 50, 51, 51, 51, 52, 51, 53, 51, 54, 51, 55, 51, 56, 51, 57, 52, 48, 52, 49, 52, 50, 52, 51, 52, 52, 52, 53, 52, 54, 52, 55, 52, 56, 52, 57, 53, 48, 53, 49, 53, 50, 53, 51, 53, 52, 53, 53, 53, 54, 53, 55, 53, 56, 53, 57, 54, 48, 54, 49, 54, 50, 54, 51, 54, 52, 54, 53, 54, 54, 54, 55, 54, 56, 54, 57, 55, 48, 55, 49, 55, 50, 55, 51, 55, 52, 55, 53, 55, 54, 55, 55, 55, 56, 55, 57, 56, 48, 56, 49, 56, 50, 56, 51, 56, 52, 56, 53, 56, 54, 56, 55, 56, 56, 56, 57, 57, 48, 57, 49, 57, 50, 57, 51, 57, 52, 57, 53, 57, 54, 57, 55, 57, 56, 57, 57]⟩)) (.tmp 130)), none, false, []⟩, ⟨(some 132), (.mv (.tmp 14)), none, false, []⟩, ⟨(some 133), (.sidx (.const (.string ⟨#[48, 48, 48, 49, 48, 50, 48, 51, 48, 52, 48, 53, 48, 54, 48, 55, 48, 56, 48, 57, 49, 48, 49, 49, 49, 50, 49, 51, 49, 52, 49, 53, 49, 54, 49, 55, 49, 56, 49, 57, 50, 48, 50, 49, 50, 50, 50, 51, 50, 52, 50, 53, 50, 54, 50, 55, 50, 56, 50, 57, 51, 48, 51, 49, 51, 50, 51, 51, 51, 52, 51, 53, 51, 54, 51, 55, 51, 56, 51, 57, 52, 48, 52, 49, 52, 50, 52, 51, 52, 52, 52, 53, 52, 54, 52, 55, 52, 56, 52, 57, 53, 48, 53, 49, 53, 50, 53, 51, 53, 52, 53, 53, 53, 54, 53, 55, 53, 56, 53, 57, 54, 48, 54, 49, 54, 50, 54, 51, 54, 52, 54, 53, 54, 54, 54, 55, 54, 56, 54, 57, 55, 48, 55, 49, 55, 50, 55, 51, 55, 52, 55, 53, 55, 54, 55, 55, 55, 56, 55, 57, 56, 48, 56, 49, 56, 50, 56, 51, 56, 52, 56, 53, 56, 54, 56, 55, 56, 56, 56, 57, 57, 48, 57, 49, 57, 50, 57, 51, 57, 52, 57, 53, 57, 54, 57, 55, 57, 56, 57, 57]⟩)) (.tmp 132)), none, false, []⟩, ⟨(some 134), (.iaddr 1 (.tmp 123) (.tmp 125)), none, false, []⟩, ⟨none, (.store 1 (.tmp 134) (.tmp 131)), none, false, []⟩, ⟨(some 135), (.iaddr 1 (.tmp 126) (.tmp 128)), none, false, []⟩, ⟨none, (.store 1 (.tmp 135) (.tmp 133)), none, false, []⟩]) (.reg [⟨(some 136), (.mv (.tmp 4)), none, false, []⟩, ⟨(some 137), (.bin .sub (.tmp 136) (.const (.int .i64 4))), none, false, []⟩, ⟨(some 4), (.mv (.tmp 137)), none, false, []⟩])))))) .skip)) (.seq (.seq (.reg [⟨(some 138), (.mv (.tmp 4)), none, false, []⟩, ⟨(some 139), (.bin .geq (.tmp 138) (.const (.int .i64 2))), none, false, []⟩]) (.cond (.tmp 139) (.seq (.reg [⟨(some 140), (.mv (.tmp 12)), none, false, []⟩, ⟨(some 141), (.bin .rem (.tmp 140) (.const (.int .u32 100))), none, false, []⟩, ⟨(some 142), (.bin .mul (.tmp 141) (.const (.int .u32 2))), none, false, []⟩, ⟨(some 16), (.mv (.tmp 142)), none, false, []⟩]) (.seq (.reg [⟨(some 143), (.mv (.tmp 12)), none, false, []⟩, ⟨(some 144), (.bin .quo (.tmp 143) (.const (.int .u32 100))), none, false, []⟩, ⟨(some 12), (.mv (.tmp 144)), none, false, []⟩]) (.seq (.reg [⟨(some 145), (.mv (.tmp 0)), none, false, []⟩, ⟨(some 146), (.mv (.tmp 4)), none, false, []⟩, ⟨(some 147), (.bin .sub (.tmp 146) (.const (.int .i64 1))), none, false, []⟩, ⟨(some 148), (.mv (.tmp 0)), none, false, []⟩, ⟨(some 149), (.mv (.tmp 4)), none, false, []⟩, ⟨(some 150), (.bin .sub (.tmp 149) (.const (.int .i64 2))), none, false, []⟩, ⟨(some 151), (.mv (.tmp 16)), none, false, []⟩, ⟨(some 152), (.bin .add (.tmp 151) (.const (.int .u32 1))), none, false, []⟩, ⟨(some 153), (.sidx (.const (.string ⟨#[48, 48, 48, 49, 48, 50, 48, 51, 48, 52, 48, 53, 48, 54, 48, 55, 48, 56, 48, 57, 49, 48, 49, 49, 49, 50, 49, 51, 49, 52, 49, 53, 49, 54, 49, 55, 49, 56, 49, 57, 50, 48, 50, 49, 50, 50, 50, 51, 50, 52, 50, 53, 50, 54, 50, 55, 50, 56, 50, 57, 51, 48, 51, 49, 51, 50, 51, 51, 51, 52, 51, 53, 51, 54, 51, 55, 51, 56, 51, 57, 52, 48, 52, 49, 52, 50, 52, 51, 52, 52, 52, 53, 52, 54, 52, 55, 52, 56, 52, 57, 53, 48, 53, 49, 53, 50, 53, 51, 53, 52, 53, 53, 53, 54, 53, 55, 53, 56, 53, 57, 54, 48, 54, 49, 54, 50, 54, 51, 54, 52, 54, 53, 54, 54, 54, 55, 54, 56, 54, 57, 55, 48, 55, 49, 55, 50, 55, 51, 55, 52, 55, 53, 55, 54, 55, 55, 55, 56, 55, 57, 56, 48, 56, 49, 56, 50, 56, 51, 56, 52, 56, 53, 56, 54, 56, 55, 56, 56, 56, 57, 57, 48, 57, 49, 57, 50, 57, 51, 57, 52, 57, 53, 57, 54, 57, 55, 57, 56, 57, 57]⟩)) (.tmp 152)), none, false, []⟩, ⟨(some 154), (.mv (.tmp 16)), none, false, []⟩, ⟨(some 155), (.sidx (.const (.string ⟨#[48, 48, 48, 49, 48, 50, 48, 51, 48, 52, 48, 53, 48, 54, 48, 55, 48, 56, 48, 57, 49, 48, 49, 49, 49, 50, 49, 51, 49, 52, 49, 53, 49, 54, 49, 55, 49, 56, 49, 57, 50, 48, 50, 49, 50, 50, 50, 51, 50, 52, 50, 53, 50, 54, 50, 55, 50, 56, 50, 57, 51, 48, 51, 49, 51, 50, 51, 51, 51, 52, 51, 53, 51, 54, 51, 55, 51, 56, 51, 57, 52, 48, 52, 49, 52, 50, 52, 51, 52, 52, 52, 53, 52, 54, 52, 55, 52, 56, 52, 57, 53, 48, 53, 49, 53, 50, 53, 51, 53, 52, 53, 53, 53, 54, 53, 55, 53, 56, 53, 57, 54, 48, 54, 49, 54, 50, 54, 51, 54, 52, 54, 53, 54, 54, 54, 55, 54, 56, 54, 57, 55, 48, 55, 49, 55, 50, 55, 51, 55, 52, 55, 53, 55, 54, 55, 55, 55, 56, 55, 57, 56, 48, 56, 49, 56, 50, 56, 51, 56, 52, 56, 53, 56, 54, 56, 55, 56, 56, 56, 57, 57, 48, 57, 49, 57, 50, 57, 51, 57, 52, 57, 53, 57, 54, 57, 55, 57, 56, 57, 57]⟩)) (.tmp 154)), none, false, []⟩, ⟨(some 156), (.iaddr 1 (.tmp 145) (.tmp 147)), none, false, []⟩, ⟨none, (.store 1 (.tmp 156) (.tmp 153)), none, false, []⟩, ⟨(some 157), (.iaddr 1 (.tmp 148) (.tmp 150)), none, false, []⟩, ⟨none, (.store 1 (.tmp 157) (.tmp 155)), none, false, []⟩]) (.reg [⟨(some 158), (.mv (.tmp 4)), none, false, []⟩, ⟨(some 159), (.bin .sub (.tmp 158) (.const (.int .i64 2))), none, false, []⟩, ⟨(some 4), (.mv (.tmp 159)), none, false, []⟩])))) .skip)) (.seq (.reg [⟨(some 160), (.mv (.tmp 4)), none, false, []⟩, ⟨(some 161), (.bin .gtr (.tmp 160) (.const (.int .i64 0))), none, false, []⟩]) (.cond (.tmp 161) (.reg [⟨(some 162), (.mv (.tmp 0)), none, false, []⟩, ⟨(some 163), (.mv (.tmp 12)), none, false, []⟩, ⟨(some 164), (.bin .add (.const (.int .u32 48)) (.tmp 163)), none, false, []⟩, ⟨(some 165), (.cvt .u8 (.tmp 164)), none, false, []⟩, ⟨(some 166), (.iaddr 1 (.tmp 162) (.const (.int .i64 0))), none, false, []⟩, ⟨none, (.store 1 (.tmp 166) (.tmp 165)), none, false, []⟩]) .skip)))))))
def internal_strconv_formatBase10 : PFunc := ⟨167, [], internal_strconv_formatBase10_c⟩
end Go.PM
/- The pure machine's form of functions, as the settings give it: I5. -/
namespace Go.PM
end Go.PM
