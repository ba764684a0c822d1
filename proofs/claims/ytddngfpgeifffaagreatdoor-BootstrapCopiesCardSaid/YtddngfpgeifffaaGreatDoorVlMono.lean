/- A part of the proof: Mono. -/
import Derived.Test.YtddngfpgeifffaaGreatDoorVlCore
set_option linter.unusedVariables false
set_option linter.unusedSimpArgs false
/- A small logic of abstract values: what stays when the world goes on. -/
namespace Go.Proofs.Vl
open Go Go.RowKit

section
variable {α β : Type} {R S : α → β → Prop}
theorem All2.imp (h : ∀ a b, R a b → S a b) : ∀ {l : List α} {m : List β}, All2 R l m → All2 S l m
  | [], [], _ => trivial
  | _ :: _, _ :: _, ⟨h1, h2⟩ => ⟨h _ _ h1, All2.imp h h2⟩
theorem All2.imp_mem : ∀ {l : List α} {m : List β}, (∀ a, a ∈ l → ∀ b, R a b → S a b) → All2 R l m → All2 S l m
  | [], [], _, _ => trivial
  | _ :: _, _ :: _, h, ⟨h1, h2⟩ => ⟨h _ (by simp) _ h1, All2.imp_mem (fun a ha b hb => h a (by simp [ha]) b hb) h2⟩
theorem All2.length : ∀ {l : List α} {m : List β}, All2 R l m → l.length = m.length
  | [], [], _ => rfl
  | _ :: _, _ :: _, ⟨_, h2⟩ => by simp [All2.length h2]
theorem All2.get : ∀ {l : List α} {m : List β}, All2 R l m → ∀ {i : Nat} {a : α}, l[i]? = some a → ∃ b, m[i]? = some b ∧ R a b
  | [], [], _, i, a, h => by simp at h
  | x :: l, y :: m, ⟨h1, h2⟩, 0, a, h => by simp at h; subst h; exact ⟨y, rfl, h1⟩
  | x :: l, y :: m, ⟨h1, h2⟩, i + 1, a, h => by simp at h; simpa using All2.get h2 h
theorem All2.set : ∀ {l : List α} {m : List β}, All2 R l m → ∀ (i : Nat) {a : α} {b : β}, R a b → All2 R (l.set i a) (m.set i b)
  | [], [], _, i, a, b, h => trivial
  | x :: l, y :: m, ⟨h1, h2⟩, 0, a, b, h => ⟨h, h2⟩
  | x :: l, y :: m, ⟨h1, h2⟩, i + 1, a, b, h => ⟨h1, All2.set h2 i h⟩
theorem All2.append : ∀ {l : List α} {m : List β}, All2 R l m → ∀ {l' : List α} {m' : List β}, All2 R l' m' → All2 R (l ++ l') (m ++ m')
  | [], [], _, _, _, h => h
  | _ :: _, _ :: _, ⟨h1, h2⟩, _, _, h => ⟨h1, All2.append h2 h⟩
theorem All2.map_left {γ : Type} {f : γ → α} : ∀ {l : List γ} {m : List β}, All2 (fun x b => R (f x) b) l m → All2 R (l.map f) m
  | [], [], _ => trivial
  | _ :: _, _ :: _, ⟨h1, h2⟩ => ⟨h1, All2.map_left h2⟩
theorem All2.drop : ∀ {l : List α} {m : List β}, All2 R l m → ∀ n, All2 R (l.drop n) (m.drop n)
  | [], [], _, _ => by simp [All2]
  | _ :: _, _ :: _, h, 0 => h
  | _ :: _, _ :: _, ⟨_, h2⟩, n + 1 => by simpa using All2.drop h2 n
theorem All2.take : ∀ {l : List α} {m : List β}, All2 R l m → ∀ n, All2 R (l.take n) (m.take n)
  | [], [], _, _ => by simp [All2]
  | _ :: _, _ :: _, h, 0 => by simp [All2]
  | _ :: _, _ :: _, ⟨h1, h2⟩, n + 1 => ⟨h1, All2.take h2 n⟩
theorem All2.of_map {γ δ : Type} {f : γ → α} {g : γ → β} : ∀ {l : List γ}, (∀ x ∈ l, R (f x) (g x)) → All2 R (l.map f) (l.map g)
  | [], _ => trivial
  | _ :: _, h => ⟨h _ (by simp), All2.of_map (δ := δ) (fun x hx => h x (by simp [hx]))⟩
end

theorem D.Rep.mono {I I' : Nat → Nat → Prop} {w w' : World} (h : ∀ b o, I b o → I' b o ∧ w'.cell? ⟨b, o, none⟩ = w.cell? ⟨b, o, none⟩) :
    ∀ (d : D) {v : Value}, d.Rep I w v → d.Rep I' w' v
  | .raw _, _, hr => hr
  | .sl n sz get, u, ⟨a, c, e, h1, h2, hc⟩ => ⟨a, c, e, h1, h2, fun hn => by
      obtain ⟨b, o, ea, hb⟩ := hc hn
      refine ⟨b, o, ea, fun i hi j hj => ?_⟩
      obtain ⟨hI, x, hx, hr⟩ := hb i hi j hj
      obtain ⟨hI', hw⟩ := h _ _ hI
      exact ⟨hI', x, hw.trans hx, D.Rep.mono h (get i j) hr⟩⟩

theorem D.Rep.one {I : Nat → Nat → Prop} {w : World} : ∀ (d : D) {v : Value}, d.Rep I w v → v.oneCell' = true
  | .raw _, _, ⟨rfl, h⟩ => h
  | .sl _ _ _, _, ⟨_, _, rfl, _⟩ => rfl

/-- Which objects an atom names. -/
def At.fits (ok : Nat → Prop) : At → Prop
  | .row id _ | .el id _ _ _ | .ref id _ | .mp id | .clo id | .sd id _ | .yld id | .mref id _ => ok id
  | _ => True
def V.fits (ok : Nat → Prop) : V → Prop
  | .c _ xs => ∀ x ∈ xs, x.fits ok
  | .tup ys => ∀ p ∈ ys, ∀ x ∈ p.2, x.fits ok
theorem At.fits_all (x : At) : x.fits fun _ => True := by cases x <;> trivial
theorem V.fits_all (v : V) : v.fits fun _ => True := by
  cases v <;> intros <;> (try intro _ _ _ _) <;> (try intro _ _) <;> exact At.fits_all _

structure Step (ok : Nat → Prop) (I : Nat → Nat → Prop) (w : World) (H : List Ob) (c : Cx) (I' : Nat → Nat → Prop) (w' : World) (H' : List Ob) (c' : Cx) : Prop where
  d : ∀ b o, I b o → I' b o ∧ w'.cell? ⟨b, o, none⟩ = w.cell? ⟨b, o, none⟩
  ob : ∀ id, id < H.length → ok id → id < H'.length ∧ obLen H id ≤ obLen H' id ∧ c'.ρ id = c.ρ id ∧ c'.κ id = c.κ id ∧ c'.γ id = c.γ id

section
variable {ok : Nat → Prop} {I I' : Nat → Nat → Prop} {w w' : World} {H H' : List Ob} {c c' : Cx}

theorem AtRep.mono (h : Step ok I w H c I' w' H' c') {x : At} {v : Value} (hf : x.fits ok) (hr : AtRep I w H c x v) : AtRep I' w' H' c' x v := by
  cases x with
  | d x => exact D.Rep.mono h.d x hr
  | ref id off => obtain ⟨hl, rfl⟩ := hr; obtain ⟨h1, h2, h3, h4, h5⟩ := h.ob id hl hf; exact ⟨h1, by rw [h3]⟩
  | row id n => obtain ⟨hl, hn, rfl⟩ := hr; obtain ⟨h1, h2, h3, h4, h5⟩ := h.ob id hl hf; exact ⟨h1, by omega, by unfold Cx.ad Cx.cap; rw [h3, h4]⟩
  | el id sz i j => obtain ⟨hl, rfl⟩ := hr; obtain ⟨h1, h2, h3, h4, h5⟩ := h.ob id hl hf; exact ⟨h1, by rw [h3]⟩
  | fel m get =>
    obtain ⟨b, o, rfl, hc⟩ := hr
    refine ⟨b, o, rfl, fun j hj => ?_⟩
    obtain ⟨hI, x, hx, hr⟩ := hc j hj
    obtain ⟨hI', hw⟩ := h.d _ _ hI
    exact ⟨hI', x, hw.trans hx, D.Rep.mono h.d _ hr⟩
  | emp => exact hr
  | sd id n => obtain ⟨hl, p, rfl, hp⟩ := hr; obtain ⟨h1, h2, h3, h4, h5⟩ := h.ob id hl hf; exact ⟨h1, p, rfl, by rw [h3]; exact hp⟩
  | mp id => obtain ⟨hl, rfl⟩ := hr; obtain ⟨h1, h2, h3, h4, h5⟩ := h.ob id hl hf; exact ⟨h1, by rw [h3]⟩
  | clo id => obtain ⟨hl, rfl, ho⟩ := hr; obtain ⟨h1, h2, h3, h4, h5⟩ := h.ob id hl hf; exact ⟨h1, by rw [h5], ho⟩
  | yld id => obtain ⟨hl, rfl⟩ := hr; obtain ⟨h1, h2, h3, h4, h5⟩ := h.ob id hl hf; exact ⟨h1, by rw [h3]⟩
  | mref id off => obtain ⟨hl, hv⟩ := hr; obtain ⟨h1, h2, h3, h4, h5⟩ := h.ob id hl hf; exact ⟨h1, by rw [h3]; exact hv⟩
  | unk => trivial

theorem CRep.mono (h : Step ok I w H c I' w' H' c') {g : Bool} {xs : List At} {v : Value} (hf : ∀ x ∈ xs, x.fits ok) (hr : CRep I w H c g xs v) : CRep I' w' H' c' g xs v := by
  cases g with
  | true =>
    obtain ⟨cs, rfl, hc⟩ := hr
    exact ⟨cs, rfl, hc.imp_mem fun a ha b hb => AtRep.mono h (hf a ha) hb⟩
  | false =>
    match xs, hf, hr with
    | [x], hf, hr => exact AtRep.mono h (hf x (by simp)) hr
    | [], _, hr => exact hr
    | _ :: _ :: _, _, hr => exact hr

theorem VRep.mono (h : Step ok I w H c I' w' H' c') {x : V} {v : Value} (hf : x.fits ok) (hr : VRep I w H c x v) : VRep I' w' H' c' x v := by
  cases x with
  | c g xs => exact CRep.mono h hf hr
  | tup ys =>
    obtain ⟨vs, rfl, hc⟩ := hr
    exact ⟨vs, rfl, hc.imp_mem fun p hp b hb => CRep.mono h (hf p hp) hb⟩

def Fr.fits (ok : Nat → Prop) (f : Fr) : Prop := ∀ p ∈ f.tl, p.2.fits ok
theorem vlook_fits {ok : Nat → Prop} {t : Nat} : ∀ {l : List (Nat × V)}, (∀ p ∈ l, p.2.fits ok) → (vlook l t).fits ok
  | [], _ => by intro x hx; simp at hx; subst hx; trivial
  | (i, v) :: l, h => by
    unfold vlook
    split
    · exact h (i, v) (by simp)
    · exact vlook_fits fun p hp => h p (by simp [hp])
theorem FRep.mono (h : Step ok I w H c I' w' H' c') {f : Fr} {tmps : Array Value} (hf : f.fits ok) (hr : FRep I w H c f tmps) : FRep I' w' H' c' f tmps :=
  ⟨hr.1, fun t => VRep.mono h (vlook_fits hf) (hr.2 t)⟩

def Ob.fits (ok : Nat → Prop) : Ob → Prop
  | .cells _ xs => ∀ x ∈ xs, x.fits ok
  | .lp _ _ tl _ _ _ _ _ => ∀ p ∈ tl, p.2.fits ok
  | .clo _ first cap => (∀ p ∈ first, ∀ x ∈ p.2, x.fits ok) ∧ (∀ p ∈ cap, ∀ x ∈ p.2, x.fits ok)
  | _ => True

theorem dcRep.mono {I I' : Nat → Nat → Prop} {w w' : World} (h : ∀ b o, I b o → I' b o ∧ w'.cell? ⟨b, o, none⟩ = w.cell? ⟨b, o, none⟩) {p : DC} {v : Value} (hr : dcRep I w p v) : dcRep I' w' p v := by
  obtain ⟨g, xs⟩ := p
  cases g with
  | true => obtain ⟨cs, e, hc⟩ := hr; exact ⟨cs, e, hc.imp fun x v h' => D.Rep.mono h x h'⟩
  | false =>
    match xs, hr with
    | [x], hr => exact D.Rep.mono h x hr
    | [], hr => exact hr
    | _ :: _ :: _, hr => exact hr
theorem ObRep.mono {B : Nat} (h : Step ok I w H c I' w' H' c') {id : Nat} {ob : Ob} (hid : id < H.length) (hok : ok id) (hf : ob.fits ok)
    (hb : ob.blk (c.κ id) = true → w'.heap[c.ρ id]? = w.heap[c.ρ id]?) (hr : ObRep B I w H c id ob) : ObRep B I' w' H' c' id ob := by
  obtain ⟨h1, h2, h3, h4, h5⟩ := h.ob id hid hok
  cases ob with
  | cells e xs =>
    obtain ⟨hB, cur, hc, ha, ho⟩ := hr
    exact ⟨by rw [h3]; exact hB, cur, by rw [h3, hb rfl]; exact hc, ha.imp_mem fun x hx v hv => AtRep.mono h (hf x hx) hv, ho⟩
  | row e sz n get fz =>
    obtain ⟨hn, hm, hr⟩ := hr
    refine ⟨by unfold Cx.cap; rw [h4]; exact hn, by unfold Cx.cap; rw [h4]; exact hm, fun k hk => ?_⟩
    rw [h4] at hk
    obtain ⟨hB, cur, hc, hs, hg⟩ := hr k hk
    refine ⟨by rw [h3]; exact hB, cur, by rw [h3, hb (row_blk hk)]; exact hc, hs, fun i hi j hj => ?_⟩
    obtain ⟨x, hx, hxr⟩ := hg i hi j hj
    exact ⟨x, hx, D.Rep.mono h.d _ hxr⟩
  | clo fn first cap =>
    obtain ⟨fs, cs, hg, hf1, hf2⟩ := hr
    exact ⟨fs, cs, by rw [h5]; exact hg, hf1.imp_mem fun p hp v hv => CRep.mono h (hf.1 p hp) hv, hf2.imp_mem fun p hp v hv => CRep.mono h (hf.2 p hp) hv⟩
  | mp t kk l =>
    obtain ⟨hB, es, clock, hc, ha⟩ := hr
    exact ⟨by rw [h3]; exact hB, es, clock, by rw [h3, hb rfl]; exact hc, ha.imp fun p e ⟨h6, h7⟩ => ⟨h6, D.Rep.mono h.d _ h7⟩⟩
  | lp l nt tl ps asg body busy pend =>
    obtain ⟨hB, hl, lr, hc, h6, h7, h8, h9, h10, h11⟩ := hr
    exact ⟨by rw [h3]; exact hB, by rw [h3]; exact hl, lr, by rw [h3, hb rfl]; exact hc, h6, h7, h8, h9, h10, FRep.mono h hf h11⟩
  | gone => trivial
theorem Ob.fits_all (ob : Ob) : ob.fits fun _ => True := by
  cases ob with
  | cells e xs => exact fun x _ => At.fits_all x
  | row => trivial
  | clo => exact ⟨fun _ _ x _ => At.fits_all x, fun _ _ x _ => At.fits_all x⟩
  | mp => trivial
  | lp => exact fun p _ => V.fits_all p.2
  | gone => trivial
theorem Fr.fits_all (f : Fr) : f.fits fun _ => True := fun p _ => V.fits_all p.2
end

/-! ### A frame's set -/
theorem vlook_set (l : List (Nat × V)) (t u : Nat) (v : V) : vlook ((t, v) :: l) u = if t = u then v else vlook l u := rfl
theorem FRep.set {I : Nat → Nat → Prop} {w : World} {H : List Ob} {c : Cx} {f : Fr} {tmps : Array Value} (h : FRep I w H c f tmps) {t : Nat} (ht : t < f.nt) {v : V} {u : Value} (hv : VRep I w H c v u) :
    FRep I w H c (f.set t v) (tmps.setIfInBounds t u) := by
  refine ⟨by simpa [Fr.set] using h.1, fun t' => ?_⟩
  have hs : t < tmps.size := by rw [h.1]; exact ht
  simp only [Fr.get, Fr.set, vlook_set]
  split
  · rename_i e; subst e; simp [hs]; exact hv
  · rename_i e
    have := h.2 t'
    simp only [Fr.get] at this
    rw [Array.getD_eq_getD_getElem?, Array.getElem?_setIfInBounds_ne (by omega), ← Array.getD_eq_getD_getElem?]
    exact this
end Go.Proofs.Vl
