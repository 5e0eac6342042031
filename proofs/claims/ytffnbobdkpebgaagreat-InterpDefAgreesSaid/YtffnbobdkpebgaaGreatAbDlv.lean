/- The abstract machine: objects of one heap told as objects of another. -/
import Derived.Test.YtffnbobdkpebgaaGreatAbWp
set_option linter.unusedVariables false
namespace Go.Ab
open Go.RowKit
def pairC : C → C → List (Nat × Nat)
 | .own id _, .own j _ => [(j, id)]
 | .sub id _ _ _, .sub j _ _ _ => [(j, id)]
 | .vrow id _ _, .vrow j _ _ => [(j, id)]
 | .ref id _ _ _, .ref j _ _ _ => [(j, id)]
 | _, _ => []
def pairCs : List C → List C → List (Nat × Nat)
 | a :: as, b :: bs => pairC a b ++ pairCs as bs
 | _, _ => []
def obPairs : Option Ob → Option Ob → List (Nat × Nat)
 | some (.var cs), some (.var cs') => pairCs cs cs'
 | _, _ => []
def inPs : List (Nat × Nat) → Nat → Nat → Bool
 | [], _, _ => false
 | (a, b) :: r, j, id => (Nat.beq a j && Nat.beq b id) || inPs r j id
def hasId : List (Nat × Nat) → Nat → Bool
 | [], _ => false
 | (_, b) :: r, id => Nat.beq b id || hasId r id
def hasJ : List (Nat × Nat) → Nat → Bool
 | [], _ => false
 | (a, _) :: r, j => Nat.beq a j || hasJ r j
def close (h news : Heap) : Nat → List (Nat × Nat) → List (Nat × Nat) → List (Nat × Nat)
 | 0, _, done => done
 | _ + 1, [], done => done
 | n + 1, (j, id) :: todo, done => match inPs done j id with
  | true => close h news n todo done
  | false => close h news n (obPairs (look h id) (look news j) ++ todo) ((j, id) :: done)
def freeN (ps : List (Nat × Nat)) : List Nat → Bool
 | [] => true
 | id :: r => !(hasId ps id) && freeN ps r
def noNm : List Nat → Bool
 | [] => true
 | _ :: _ => false
def zC (lb : Bool) (h news : Heap) (ps : List (Nat × Nat)) : C → C → Prop
 | a, .d x => match lend h a, (bif lb then freeN ps (lendN h a) else noNm (lendN h a)) with
  | some y, true => y = x
  | _, _ => False
 | .own id s, .own j s' => match inPs ps j id with
  | true => s = s'
  | false => False
 | .nil s, .own j s' => match look news j with
  | some (.row T s1 es) => (s = s' ∧ s1 = s') ∧ es = []
  | _ => False
 | .nil _, .nil _ => True
 | .sub id s st n, .sub j s' st' n' => match inPs ps j id with
  | true => s = s' ∧ st = st' ∧ n = n'
  | false => False
 | .vrow id s n, .vrow j s' n' => match inPs ps j id with
  | true => s = s' ∧ n = n'
  | false => False
 | .ref id i s off, .ref j i' s' off' => match inPs ps j id with
  | true => i = i' ∧ s = s' ∧ off = off'
  | false => False
 | _, .junk => True
 | _, _ => False
def zCs (lb : Bool) (h news : Heap) (ps : List (Nat × Nat)) : List C → List C → Prop
 | [], [] => True
 | a :: as, b :: bs => zC lb h news ps a b ∧ zCs lb h news ps as bs
 | _, _ => False
def obP (lb : Bool) (h news : Heap) (ps : List (Nat × Nat)) (j id : Nat) : Prop := match look h id, look news j with
 | some (.row T s es), some (.row T' s' es') => (T = T' ∧ s = s') ∧ es = es'
 | some (.var cs), some (.var cs') => zCs lb h news ps cs cs'
 | _, _ => False
def obsP (lb : Bool) (h news : Heap) (ps : List (Nat × Nat)) : List (Nat × Nat) → Prop
 | [] => True
 | (j, id) :: r => obP lb h news ps j id ∧ obsP lb h news ps r
def nodupB : List Nat → Bool
 | [] => true
 | x :: r => !(r.any (Nat.beq x)) && nodupB r
theorem nodupB_spec : ∀ {l : List Nat}, nodupB l = true → l.Nodup
 | [], _ => List.nodup_nil
 | x :: r, h => by
  simp only [nodupB, Bool.and_eq_true, Bool.not_eq_true'] at h
  refine List.nodup_cons.2 ⟨fun hm => ?_, nodupB_spec h.2⟩
  have : r.any (Nat.beq x) = true := List.any_eq_true.2 ⟨x, hm, Nat.beq_refl x⟩
  rw [h.1] at this; cases this
theorem beq_false {i j : Nat} (h : i ≠ j) : Nat.beq i j = false := by
 cases hb : Nat.beq i j with
 | false => rfl
 | true => exact absurd (Nat.eq_of_beq_eq_true hb) h
theorem inPs_mem : ∀ {ps : List (Nat × Nat)} {j id : Nat}, inPs ps j id = true ↔ (j, id) ∈ ps
 | [], j, id => by simp [inPs]
 | (a, b) :: r, j, id => by
  simp only [inPs, Bool.or_eq_true, Bool.and_eq_true, List.mem_cons, Prod.mk.injEq]
  rw [inPs_mem]
  constructor
  ·rintro (⟨h1, h2⟩ | h)
   ·exact .inl ⟨(Nat.eq_of_beq_eq_true h1).symm, (Nat.eq_of_beq_eq_true h2).symm⟩
   ·exact .inr h
  ·rintro (⟨rfl, rfl⟩ | h)
   ·exact .inl ⟨Nat.beq_refl _, Nat.beq_refl _⟩
   ·exact .inr h
theorem hasId_iff : ∀ {ps : List (Nat × Nat)} {id : Nat}, hasId ps id = true ↔ ∃ j, (j, id) ∈ ps
 | [], id => by simp [hasId]
 | (a, b) :: r, id => by
  simp only [hasId, Bool.or_eq_true, List.mem_cons, Prod.mk.injEq]
  rw [hasId_iff]
  constructor
  ·rintro (h | ⟨j, h⟩)
   ·exact ⟨a, .inl ⟨rfl, (Nat.eq_of_beq_eq_true h).symm⟩⟩
   ·exact ⟨j, .inr h⟩
  ·rintro ⟨j, ⟨rfl, rfl⟩ | h⟩
   ·exact .inl (Nat.beq_refl _)
   ·exact .inr ⟨j, h⟩
theorem hasJ_iff : ∀ {ps : List (Nat × Nat)} {j : Nat}, hasJ ps j = true ↔ ∃ id, (j, id) ∈ ps
 | [], j => by simp [hasJ]
 | (a, b) :: r, j => by
  simp only [hasJ, Bool.or_eq_true, List.mem_cons, Prod.mk.injEq]
  rw [hasJ_iff]
  constructor
  ·rintro (h | ⟨id, h⟩)
   ·exact ⟨b, .inl ⟨(Nat.eq_of_beq_eq_true h).symm, rfl⟩⟩
   ·exact ⟨id, .inr h⟩
  ·rintro ⟨id, ⟨rfl, rfl⟩ | h⟩
   ·exact .inl (Nat.beq_refl _)
   ·exact .inr ⟨id, h⟩
theorem freeN_spec {ps : List (Nat × Nat)} : ∀ {l : List Nat}, freeN ps l = true → ∀ id ∈ l, hasId ps id = false
 | [], _, id, h => by cases h
 | x :: r, hf, id, h => by
  simp only [freeN, Bool.and_eq_true, Bool.not_eq_true'] at hf
  rcases List.mem_cons.1 h with rfl | h
  ·exact hf.1
  ·exact freeN_spec hf.2 id h
theorem look_pairs : ∀ {l : List (Nat × Nat)} {j id : Nat}, (l.map (·.1)).Nodup → (j, id) ∈ l → look l j = some id
 | [], j, id, _, h => by cases h
 | (k, x) :: r, j, id, hn, h => by
  simp only [List.map_cons, List.nodup_cons] at hn
  simp only [List.mem_cons, Prod.mk.injEq] at h
  simp only [look]
  rcases h with ⟨rfl, rfl⟩ | h
  ·rw [Nat.beq_refl]; rfl
  ·have hne : Nat.beq k j = false := beq_false fun e => by
    subst e
    exact absurd (List.mem_map.2 ⟨_, h, rfl⟩) hn.1
   rw [hne]
   exact look_pairs hn.2 h
theorem snd_uniq : ∀ {l : List (Nat × Nat)} {i j id : Nat}, (l.map (·.2)).Nodup → (i, id) ∈ l → (j, id) ∈ l → i = j
 | [], i, j, id, _, h, _ => by cases h
 | (k, x) :: r, i, j, id, hn, hi, hj => by
  simp only [List.map_cons, List.nodup_cons] at hn
  simp only [List.mem_cons, Prod.mk.injEq] at hi hj
  rcases hi with ⟨rfl, rfl⟩ | hi <;> rcases hj with ⟨rfl, h2⟩ | hj
  ·rfl
  ·exact absurd (List.mem_map.2 ⟨_, hj, rfl⟩) hn.1
  ·subst h2; exact absurd (List.mem_map.2 ⟨_, hi, rfl⟩) hn.1
  ·exact snd_uniq hn.2 hi hj
theorem obsP_mem {lb : Bool} {h news : Heap} {ps : List (Nat × Nat)} : ∀ {l : List (Nat × Nat)}, obsP lb h news ps l → ∀ {j id : Nat}, (j, id) ∈ l → obP lb h news ps j id
 | [], _, _, _, hm => by cases hm
 | (a, b) :: r, ho, j, id, hm => by
  rcases List.mem_cons.1 hm with e | e
  ·cases e; exact ho.1
  ·exact obsP_mem ho.2 e
theorem zCs_rel {lb : Bool} {h news : Heap} {ps : List (Nat × Nat)} {R R' : Value → C → Prop} (hR : ∀ x y, zC lb h news ps x y → ∀ v, R v x → R' v y) : ∀ {as bs : List C} {vs : List Value}, zCs lb h news ps as bs → All2 R vs as → All2 R' vs bs
 | [], [], [], _, _ => trivial
 | a :: as, b :: bs, v :: vs, hz, hr => ⟨hR a b hz.1 v hr.1, zCs_rel hR hz.2 hr.2⟩
 | [], [], _ :: _, _, hr => hr.elim
 | _ :: _, _ :: _, [], _, hr => hr.elim
 | [], _ :: _, _, hz, _ => hz.elim
 | _ :: _, [], _, hz, _ => hz.elim
theorem carry {S : Nat → Prop} {ρ : Map} {F : Nat → Prop} {w : World} {h news : Heap} {ps : List (Nat × Nat)} {lb : Bool} (hobj : HRel ρ F w h) (ok : WOk S ρ F w) (h1 : (ps.map (·.1)).Nodup) (h2 : (ps.map (·.2)).Nodup) (hob : obsP lb h news ps ps) :
  ∃ (ρ' : Map) (F' : Nat → Prop), (∀ b, F b → F' b) ∧ (∀ b, F' b → F b ∨ (lb = true ∧ ∃ id N, ρ id = some (b, N))) ∧ (∀ j p, ρ' j = some p → ∃ id, (j, id) ∈ ps ∧ ρ id = some p) ∧ (∀ j id, (j, id) ∈ ps → ρ' j = ρ id) ∧
   (∀ j b N, ρ' j = some (b, N) → ¬ F' b) ∧ (∀ i j b N M, ρ' i = some (b, N) → ρ' j = some (b, M) → i = j) ∧ (∀ x y, zC lb h news ps x y → ∀ v, CRel ρ F w h v x → CRel ρ' F' w news v y) ∧ HRel ρ' F' w news := by
 let ρ' : Map := fun j => match look ps j with | some id => ρ id | none => none
 let F' : Nat → Prop := fun b => F b ∨ (lb = true ∧ ∃ id N, ρ id = some (b, N) ∧ hasId ps id = false)
 have hρ' : ∀ j p, ρ' j = some p → ∃ id, (j, id) ∈ ps ∧ ρ id = some p := fun j p hj => by
  simp only [ρ'] at hj
  split at hj
  ·rename_i id hl; exact ⟨id, look_mem hl, hj⟩
  ·cases hj
 have hin : ∀ j id, (j, id) ∈ ps → ρ' j = ρ id := fun j id hm => by simp only [ρ', look_pairs h1 hm]
 have hnot : ∀ j b N, ρ' j = some (b, N) → ¬ F' b := fun j b N hj hF => by
  obtain ⟨id, hm, hr⟩ := hρ' j _ hj
  rcases hF with hF | ⟨_, id', N', hr', hno⟩
  ·exact (ok.own id b N hr).2.2 hF
  ·have := ok.inj id id' b N N' hr hr'
   subst this
   rw [hasId_iff.2 ⟨j, hm⟩] at hno; cases hno
 have cell : ∀ x y, zC lb h news ps x y → ∀ v, CRel ρ F w h v x → CRel ρ' F' w news v y := by
  intro x y hz v hr
  unfold zC at hz
  split at hz
  ·split at hz
   ·rename_i z hl hf
    subst hz
    refine DRel.mono (fun b hb => ?_) (fun _ _ => rfl) (lend_rel' (Sub.refl h) hobj hr hl)
    rcases hb with hb | ⟨id, N, hid, hρ⟩
    ·exact .inl hb
    ·cases lb with
     | true => exact .inr ⟨rfl, id, N, hρ, freeN_spec hf id hid⟩
     | false =>
      simp only [cond_false] at hf
      cases hnn : lendN h x with
      | nil => rw [hnn] at hid; cases hid
      | cons => rw [hnn] at hf; cases hf
   ·exact hz.elim
  ·split at hz
   ·rename_i id s j s' hps
    subst hz
    have hm := inPs_mem.1 hps
    obtain ⟨T, es, he, hv⟩ := hr
    have ho := obsP_mem hob hm
    simp only [obP, he] at ho
    split at ho
    ·rename_i e1 e2
     cases e1
     obtain ⟨⟨rfl, rfl⟩, rfl⟩ := ho
     refine ⟨_, _, e2, ?_⟩
     rcases hv with hv | ⟨b, N, cap, hb, r⟩
     ·exact .inl hv
     ·exact .inr ⟨b, N, cap, by rw [hin _ _ hm]; exact hb, r⟩
    ·rename_i e1 e2; cases e1
    ·exact ho.elim
   ·exact hz.elim
  ·split at hz
   ·rename_i T s1 es e2
    obtain ⟨⟨rfl, rfl⟩, rfl⟩ := hz
    exact ⟨T, [], e2, .inl ⟨hr, rfl⟩⟩
   ·exact hz.elim
  ·exact hr
  ·split at hz
   ·rename_i id s st n j s' st' n' hps
    obtain ⟨rfl, rfl, rfl⟩ := hz
    have hm := inPs_mem.1 hps
    obtain ⟨T, es, he, hle, hv⟩ := hr
    have ho := obsP_mem hob hm
    simp only [obP, he] at ho
    split at ho
    ·rename_i e1 e2
     cases e1
     obtain ⟨⟨rfl, rfl⟩, rfl⟩ := ho
     refine ⟨_, _, e2, hle, ?_⟩
     rcases hv with hv | hv | ⟨b, N, cap, hb, r⟩
     ·exact .inl hv
     ·exact .inr (.inl hv)
     ·exact .inr (.inr ⟨b, N, cap, by rw [hin _ _ hm]; exact hb, r⟩)
    ·rename_i e1 e2; cases e1
    ·exact ho.elim
   ·exact hz.elim
  ·split at hz
   ·rename_i id s n j s' n' hps
    obtain ⟨rfl, rfl⟩ := hz
    obtain ⟨b, N, hb, r⟩ := hr
    exact ⟨b, N, by rw [hin _ _ (inPs_mem.1 hps)]; exact hb, r⟩
   ·exact hz.elim
  ·split at hz
   ·rename_i id i s off j i' s' off' hps
    obtain ⟨rfl, rfl, rfl⟩ := hz
    obtain ⟨b, N, hb, r⟩ := hr
    exact ⟨b, N, by rw [hin _ _ (inPs_mem.1 hps)]; exact hb, r⟩
   ·exact hz.elim
  ·trivial
  ·exact hz.elim
 refine ⟨ρ', F', fun b hb => .inl hb, fun b hb => hb.imp_right fun ⟨hl, id, N, hr, _⟩ => ⟨hl, id, N, hr⟩, hρ', hin, hnot, fun i j b N M hi hj => ?_, cell, fun j b N hj o ho => ?_⟩
 ·obtain ⟨id, hm, hr⟩ := hρ' i _ hi
  obtain ⟨id', hm', hr'⟩ := hρ' j _ hj
  have := ok.inj id id' b N M hr hr'
  subst this
  exact snd_uniq h2 hm hm'
 ·obtain ⟨id, hm, hr⟩ := hρ' j _ hj
  have hp := obsP_mem hob hm
  unfold obP at hp
  split at hp
  ·rename_i e1 e2
   rw [e2] at ho; cases ho
   obtain ⟨⟨rfl, rfl⟩, rfl⟩ := hp
   obtain ⟨c, hc, hcn, hle, hse, hcr⟩ := hobj id b N hr _ e1
   refine ⟨c, hc, hcn, hle, hse, fun i e k x he hx => ?_⟩
   obtain ⟨v, hv1, hv2⟩ := hcr i e k x he hx
   exact ⟨v, hv1, DRel.mono (fun _ h => .inl h) (fun _ _ => rfl) hv2⟩
  ·rename_i e1 e2
   rw [e2] at ho; cases ho
   obtain ⟨c, T, hc, hcn, hcr⟩ := hobj id b N hr _ e1
   exact ⟨c, T, hc, hcn, zCs_rel cell hp hcr⟩
  ·exact hp.elim
def cellsSV : SV → List C
 | .c x => [x]
 | .agg cs => cs
 | .fn _ cs => cs
def cellsSVs : List SV → List C
 | [] => []
 | v :: r => cellsSV v ++ cellsSVs r
def zSV (lb : Bool) (h news : Heap) (ps : List (Nat × Nat)) : SV → SV → Prop
 | .c x, .c y => zC lb h news ps x y
 | .agg cs, .agg ds => zCs lb h news ps cs ds
 | _, _ => False
def zSVs (lb : Bool) (h news : Heap) (ps : List (Nat × Nat)) : List SV → List SV → Prop
 | [], [] => True
 | a :: as, b :: bs => zSV lb h news ps a b ∧ zSVs lb h news ps as bs
 | _, _ => False
theorem zSVs_rel {lb : Bool} {h news : Heap} {ps : List (Nat × Nat)} {ρ ρ' : Map} {F F' : Nat → Prop} {w : World} (hR : ∀ x y, zC lb h news ps x y → ∀ v, CRel ρ F w h v x → CRel ρ' F' w news v y) :
  ∀ {as bs : List SV} {vs : List Value}, zSVs lb h news ps as bs → All2 (SVRel ρ F w h) vs as → All2 (SVRel ρ' F' w news) vs bs
 | [], [], [], _, _ => trivial
 | a :: as, b :: bs, v :: vs, hz, hr => by
  refine ⟨?_, zSVs_rel hR hz.2 hr.2⟩
  have hz1 := hz.1
  cases a <;> cases b <;> simp only [zSV] at hz1
  ·exact hR _ _ hz1 v hr.1
  ·obtain ⟨us, hv, hu⟩ := hr.1
   exact ⟨us, hv, zCs_rel hR hz1 hu⟩
 | [], [], _ :: _, _, hr => hr.elim
 | _ :: _, _ :: _, [], _, hr => hr.elim
 | [], _ :: _, _, hz, _ => hz.elim
 | _ :: _, [], _, hz, _ => hz.elim
def fPs : List (Nat × Nat) → (List (Nat × Nat) → Prop) → Prop
 | [], k => k []
 | (a, b) :: r, k => fN a fun a => fN b fun b => fPs r fun r => k ((a, b) :: r)
theorem fPs_eq : ∀ (l : List (Nat × Nat)) (k : List (Nat × Nat) → Prop), fPs l k = k l
 | [], k => rfl
 | (a, b) :: r, k => by simp only [fPs, fN_eq]; rw [fPs_eq r]
def selfs : List Nat → List (Nat × Nat)
 | [] => []
 | j :: r => (j, j) :: selfs r
theorem selfs_mem : ∀ {l : List Nat} {j : Nat}, j ∈ l → (j, j) ∈ selfs l
 | k :: r, j, h => by
  rcases List.mem_cons.1 h with rfl | h
  ·exact .head _
  ·exact .tail _ (selfs_mem h)
def pinsOf : Heap → List Nat
 | [] => []
 | (k, _) :: r => match Nat.ble 7000000 k with
  | true => k :: pinsOf r
  | false => pinsOf r
theorem pinsOf_mem : ∀ {h : Heap} {k : Nat} {o : Ob}, look h k = some o → 7000000 ≤ k → k ∈ pinsOf h
 | [], k, o, h, _ => by simp [look] at h
 | (j, x) :: r, k, o, h, hk => by
  simp only [look] at h
  unfold pinsOf
  cases hb : Nat.beq j k with
  | true =>
   have := Nat.eq_of_beq_eq_true hb
   subst this
   have : Nat.ble 7000000 j = true := by simpa using hk
   rw [this]; exact .head _
  | false =>
   rw [hb] at h
   have := pinsOf_mem h hk
   split
   ·exact .tail _ this
   ·exact this
def allIn (ps : List (Nat × Nat)) : List Nat → Bool
 | [] => true
 | j :: r => inPs ps j j && allIn ps r
theorem allIn_spec {ps : List (Nat × Nat)} : ∀ {l : List Nat}, allIn ps l = true → ∀ j ∈ l, (j, j) ∈ ps
 | [], _, j, h => by cases h
 | k :: r, ha, j, h => by
  simp only [allIn, Bool.and_eq_true] at ha
  rcases List.mem_cons.1 h with rfl | h
  ·exact inPs_mem.1 ha.1
  ·exact allIn_spec ha.2 j h
def Dlv (h news : Heap) (pins : List Nat) (act exp : List SV) : Prop :=
 fPs (close h news 400 (selfs pins ++ pairCs (cellsSVs act) (cellsSVs exp)) []) fun ps => match nodupB (ps.map (·.1)), nodupB (ps.map (·.2)), allIn ps pins with
  | true, true, true => obsP true h news ps ps ∧ zSVs true h news ps act exp
  | _, _, _ => False
structure LeftH (S : Nat → Prop) (F : Nat → Prop) (ρ : Map) (w : World) (r : AV) (post : Heap) (v : Value) (ρ' : Map) (F' : Nat → Prop) (w' : World) : Prop where
 keep : Keep S w w'
 ok : WOk S ρ' F' w'
 set : ∀ b, F b → F' b
 new : ∀ b, F' b → F b ∨ ¬ S b
 pin : ∀ id p, ρ id = some p → (∃ o, look post id = some o) → ρ' id = some p
 dom : ∀ id p, ρ' id = some p → ∃ o, look post id = some o
 val : ARel ρ' F' w' post v r
 obj : HRel ρ' F' w' post
structure FnH (P : Program) (f : FuncId) (args : List SV) (pre : Heap) (r : AV) (post : Heap) : Prop where
 enters : ∀ as w, (callFunc f as).run P w = .ok (.enter f as) w
 shape : ∀ id T s es o, look pre id = some (.row T s es) → look post id = some o → ∃ es', o = .row T s es' ∧ es'.length = es.length
 calls : ∀ (S F : Nat → Prop) (ρ : Map) (w : World) (vs : List Value), WOk S ρ F w → (∀ id p, ρ id = some p → 7000000 ≤ id ∧ ∃ o, look pre id = some o) → HRel ρ F w pre → All2 (SVRel ρ F w pre) vs args →
  Calls P f vs.toArray w fun e w' => ∃ v ρ' F', e = .returned v ∧ LeftH S F ρ w r post v ρ' F' w'
theorem deliver {S : Nat → Prop} {B : Base} {w0 : World} {σ : St} {a : Act} {w : World} {post : Heap} {act exp : List SV} {ρ : Map} {F : Nat → Prop} (hs : SRel S ρ F σ a w) (h1 : PinOK S B ρ F σ.h) (h2 : ∀ b, F b → B.F b ∨ ¬ B.old b) (hS : ∀ b, S b → B.old b)
  (hk : Keep S w0 w) {vs : List Value} (hv : All2 (SVRel ρ F w σ.h) vs act) (hd : Dlv σ.h post (pinsOf post) act exp) :
  ∃ ρ' F', Keep S w0 w ∧ WOk S ρ' F' w ∧ (∀ b, B.F b → F' b) ∧ (∀ b, F' b → B.F b ∨ ¬ S b) ∧ (∀ id p, B.pin id = some p → (∃ o, look post id = some o) → ρ' id = some p) ∧ (∀ id p, ρ' id = some p → ∃ o, look post id = some o) ∧
   All2 (SVRel ρ' F' w post) vs exp ∧ HRel ρ' F' w post := by
 unfold Dlv at hd
 rw [fPs_eq] at hd
 generalize close σ.h post 400 (selfs (pinsOf post) ++ pairCs (cellsSVs act) (cellsSVs exp)) [] = ps at hd
 split at hd
 case h_2 => exact hd.elim
 rename_i hn1 hn2 hn3
 obtain ⟨hob, hz⟩ := hd
 obtain ⟨ρ', F', c1, c2, c3, c4, c5, c6, c7, c8⟩ := carry hs.obj hs.ok (nodupB_spec hn1) (nodupB_spec hn2) hob
 have hlook : ∀ {j id}, (j, id) ∈ ps → (∃ o, look σ.h id = some o) ∧ ∃ o, look post j = some o := fun hm => by
  have ho := obsP_mem hob hm
  unfold obP at ho
  split at ho
  ·rename_i e1 e2; exact ⟨⟨_, e1⟩, _, e2⟩
  ·rename_i e1 e2; exact ⟨⟨_, e1⟩, _, e2⟩
  ·exact ho.elim
 refine ⟨ρ', F', hk, ⟨hs.ok.glob.mono c1 (fun _ _ => rfl), hs.ok.keep, fun b hb => ?_, fun j b N hj => ?_, c6⟩, fun b hb => c1 b (h1.1 b hb), fun b hb => ?_, fun id p hp ho => ?_, fun j p hj => ?_, zSVs_rel c7 hz hv, c8⟩
 ·rcases c2 b hb with hb | ⟨_, id, N, hr⟩
  ·exact hs.ok.comm b hb
  ·exact (hs.ok.own id b N hr).1
 ·obtain ⟨id, hm, hr⟩ := c3 j _ hj
  obtain ⟨k1, k2, k3⟩ := hs.ok.own id b N hr
  exact ⟨k1, k2, c5 j b N hj⟩
 ·rcases c2 b hb with hb | ⟨_, id, N, hr⟩
  ·exact (h2 b hb).imp_right fun hn hS' => hn (hS b hS')
  ·exact .inr (hs.ok.own id b N hr).2.1
 ·obtain ⟨o, ho⟩ := ho
  have hm := allIn_spec hn3 id (pinsOf_mem ho (B.num id p hp))
  rw [c4 id id hm]
  exact h1.2.2 id p hp (hlook hm).1
 ·obtain ⟨id, hm, _⟩ := c3 j _ hj
  exact (hlook hm).2
end Go.Ab
