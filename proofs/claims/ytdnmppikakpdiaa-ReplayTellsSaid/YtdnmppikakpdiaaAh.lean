/- Every operation; every statement; a function. -/
import Derived.Test.YtdnmppikakpdiaaPad
set_option linter.unusedVariables false
namespace Go.Am
open Go.RowKit

def chkMkf (o : Oper) (g : Nat) (xs : List Opd) : Bool := match o.op with
  | .makeFunc (.func g') first captured => g' == g && first.isEmpty && chkArgs captured.toList xs
  | _ => false
def chkAct (P : Program) (nm : Nat → Option Nat) (o : Oper) : Act → Bool
  | .mov x => chkMov o x
  | .frz x => chkMov o x
  | .pick c x y => chkPick o c x y
  | .bin op x y => chkBin o op x y
  | .eqs neg ks x y => chkEqs P o neg ks x y
  | .beq neg x y => chkBeq P o neg x y
  | .un op x => chkUn o op x
  | .conv c x => chkConv P o c x
  | .ext x i => chkExt o x i
  | .fld x off sz ag => chkFld P o x off sz ag
  | .idx x i n sz ag => chkIdx P o x i n sz ag
  | .sidx x i => chkSidx P o x i
  | .iad x i sz => chkIad P o x i sz
  | .iadA x i n sz => chkIadA P o x i n sz
  | .fad x off => chkFad P o x off
  | .ld x sz ag => chkLd P o x sz ag
  | .sto sz x v => chkSto P o sz x v
  | .stoG sz x v => chkSto P o sz x v
  | .stoF sz x v => chkSto P o sz x v
  | .ldF x sz => chkLd P o x sz true
  | .ldA x sz => chkLd P o x sz true
  | .alc key cs => decide (key < MK) && tyKey P o key && chkAlc P o cs
  | .box key x => decide (key < MK) && tyKey P o key && chkBox o x
  | .bld zero ps => chkBld P o zero ps
  | .bldA zero ps => chkBldA P o zero ps
  | .bsl sz zero n ps => chkBsl P o sz zero n ps
  | .cvb x => chkCvb P o x
  | .bso key sz zero n ps => decide (key < MK) && tyKey P o key && chkBsl P o sz zero n ps
  | .bsoA key sz zero n ps => decide (key < MK) && tyKey P o key && chkBslA P o sz zero n ps
  | .appR key sz bytes x y => decide (key < MK) && tyKey P o key && chkApp P o sz bytes x y
  | .appM key sz bytes x y => decide (key < MK) && tyKey P o key && chkApp P o sz bytes x y
  | .ssl x lo hi => chkSsl P o x lo hi
  | .lsl sz x lo hi => chkLsl P o sz x lo hi
  | .len b x => chkLen P o b x
  | .app key sz bytes x y => decide (key < MK) && tyKey P o key && chkApp P o sz bytes x y
  | .mks key bytes zero n c => decide (key < MK) && tyKey P o key && chkMks P o bytes zero n c
  | .mkf g xs => chkMkf o g xs
  | .call f args => chkCall P nm o f args
  | .callP f xs => chkCallP P nm o f xs
  | .callQ f xs => chkCallP P nm o f xs
  | .callV x xs => chkCallV o x xs
  | .callC f g n x xs => chkCallC P nm o f g n x xs
  | .mn x xs => chkMn o x xs
  | .mx x xs => chkMx o x xs
  | .nilc x => chkNilc o x
  | .shf l x y => chkShf P o l x y
  | .idp ty sz x => chkIdp P o ty sz x
  | .isn k neg x => chkIsn P o k neg x
  | .peq neg x y => chkPeq P o neg x y
  | .sdat x => chkSdat P o x
  | .ustr ty x n => chkUstr P o ty x n
  | .mmk key => decide (MK ≤ key) && decide (key < 2 * MK) && chkMmk o
  | .mget ks zero ok x i => chkMget P o ks zero ok x i
  | .mset ks x i v => chkMset P o ks x i v
  | .ment ks zero x i => chkMent P o ks zero x i
  | .mest x i v => chkMest o x i v
  | .mdel ks x i => chkMdel P o ks x i
  | .mlen x => chkMlen P o x
  | .rng key x => decide (2 * MK ≤ key) && chkRng P o x
  | .ent x => chkEnt o x

section
variable {P : Program} {B : Nat} {F F' : Facts} {ρ ρ' : Map} {s : St} {a : Go.Act} {w w' : World} {o : Oper}

set_option maxHeartbeats 1000000 in
theorem does_mkf {P : Program} {F : Facts} {ρ : Map} {s : St} {a : Go.Act} {w : World} {o : Oper} {g : Nat} {xs : List Opd} {vs : List AV} (hf : Fr F ρ s.ob s.fr a) (hc : chkMkf o g xs = true) (h1 : s.opds xs = some vs) (hD : vs.all AV.isD = true) : Pure P o a w F ρ s (.clo g vs) := by
  unfold chkMkf at hc
  split at hc
  · rename_i g' first captured hop
    simp only [Bool.and_eq_true, beq_iff_eq] at hc
    obtain ⟨⟨rfl, hfst⟩, hcap⟩ := hc
    have hv := opds_sound hf hcap h1
    have hfe : first = #[] := by simpa using hfst
    subst hfe
    refine pure_of (u := .func (.func g') #[] (captured.toList.map a.eval).toArray) ?_ ⟨_, rfl, ?_⟩
    · simp [execOp, hop, Instr.makeFunc]; rw [← Array.toList_inj]; simp
    · refine All2.of_get hv.length fun i x hx => ?_
      obtain ⟨u, hu, hr⟩ := hv.get? i x hx
      exact ⟨u, hu, AR.to1 (List.all_eq_true.1 hD x (List.mem_of_getElem? hx)) hr⟩
  · simp at hc
theorem act_sound {nm : Nat → Option Nat} {Γ : Env} {A : Act} {v : AV} {s' : St} (hΓ : EnvOk P nm Γ) (hm : Mem B F ρ s.ob w) (hf : Fr F ρ s.ob s.fr a) (hc : chkAct P nm o A = true) (h : act Γ s A = some (v, s')) :
    s'.fr = s.fr ∧ Does P o a w (Post B F w s.fr a s'.ob v) := by
  have pure_ : ∀ {v' : AV}, Pure P o a w F ρ s v' → v' = v → s = s' → s'.fr = s.fr ∧ Does P o a w (Post B F w s.fr a s'.ob v) := by
    rintro v' hp rfl rfl
    exact ⟨rfl, hp.post hm hf⟩
  cases A <;> simp only [chkAct] at hc <;> simp only [act] at h
  case mov x =>
    simp only [Option.map_eq_some_iff, Prod.mk.injEq] at h
    obtain ⟨u, hu, rfl, rfl⟩ := h
    exact pure_ (does_mov hf hc hu) rfl rfl
  case frz x =>
    split at h
    · rename_i v0 hv0
      simp only [Option.map_eq_some_iff, Prod.mk.injEq] at h
      obtain ⟨p, hp, rfl, rfl⟩ := h
      exact ⟨kill_fr _ _, does_frz hm hf hc hv0 hp⟩
    · simp at h
  case pick c x y =>
    split at h
    · rename_i t ht
      simp only [Option.map_eq_some_iff, Prod.mk.injEq] at h
      obtain ⟨u, hu, rfl, rfl⟩ := h
      exact pure_ (does_pick hf hc ht hu) rfl rfl
    · simp at h
  case bin op x y =>
    split at h
    · rename_i p q hp hq
      simp only [Option.map_eq_some_iff, Prod.mk.injEq] at h
      obtain ⟨d, hd, rfl, rfl⟩ := h
      exact pure_ (does_bin hf hc hp hq hd) rfl rfl
    · simp at h
  case eqs neg ks x y =>
    split at h
    · rename_i p q hp hq
      simp only [Option.map_eq_some_iff, Prod.mk.injEq] at h
      obtain ⟨d, hd, rfl, rfl⟩ := h
      exact pure_ (does_eqs hf hc hp hq hd) rfl rfl
    · simp at h
  case beq neg x y =>
    split at h
    · rename_i p q hp hq
      simp only [Option.some.injEq, Prod.mk.injEq] at h
      obtain ⟨rfl, rfl⟩ := h
      exact pure_ (does_beq hf hc hp hq) rfl rfl
    · simp at h
  case un op x =>
    split at h
    · rename_i p hp
      simp only [Option.map_eq_some_iff, Prod.mk.injEq] at h
      obtain ⟨d, hd, rfl, rfl⟩ := h
      exact pure_ (does_un hf hc hp hd) rfl rfl
    · simp at h
  case conv c x =>
    split at h
    · rename_i p hp
      simp only [Option.map_eq_some_iff, Prod.mk.injEq] at h
      obtain ⟨d, hd, rfl, rfl⟩ := h
      exact pure_ (does_conv hm hf hc hp hd) rfl rfl
    · simp at h
  case ext x i =>
    split at h
    · rename_i vs hp
      simp only [Option.map_eq_some_iff, Prod.mk.injEq] at h
      obtain ⟨d, hd, rfl, rfl⟩ := h
      exact pure_ (does_ext hf hc hp hd) rfl rfl
    · simp at h
  case fld x off sz ag =>
    split at h
    · rename_i cs hp
      simp only [Option.map_eq_some_iff, Prod.mk.injEq] at h
      obtain ⟨d, hd, rfl, rfl⟩ := h
      exact pure_ (does_fld hf hc hp hd) rfl rfl
    · simp at h
  case idx x i n sz ag =>
    split at h
    · rename_i cs p hp hi
      split at h
      · rename_i j hj
        split at h
        · rename_i hn
          simp only [Option.map_eq_some_iff, Prod.mk.injEq] at h
          obtain ⟨d, hd, rfl, rfl⟩ := h
          exact pure_ (does_idx hf hc hp hi hj hn hd) rfl rfl
        · simp at h
      · simp at h
    · simp at h
  case sidx x i =>
    split at h
    · rename_i l p hp hi
      split at h
      · rename_i j hj
        simp only [Option.map_eq_some_iff, Prod.mk.injEq] at h
        obtain ⟨d, hd, rfl, rfl⟩ := h
        exact pure_ (does_sidx hf hc hp hi hj hd) rfl rfl
      · simp at h
    · simp at h
  case iad x i sz =>
    split at h
    · rename_i z rows p hp hi
      split at h
      · rename_i j hj
        split at h
        · rename_i hz; subst hz
          simp only [Option.map_eq_some_iff, Prod.mk.injEq] at h
          obtain ⟨d, hd, rfl, rfl⟩ := h
          exact pure_ (does_iad_vs hf hc hp hi hj hd) rfl rfl
        · simp at h
      · simp at h
    · rename_i key ver start len p hp hi
      split at h
      · rename_i j ob hj hob
        split at h
        · rename_i hcond
          simp only [Option.some.injEq, Prod.mk.injEq] at h
          obtain ⟨rfl, rfl⟩ := h
          exact pure_ (does_iad_sl hm hf hc hp hi hj hob hcond.1 hcond.2.2.1 hcond.2.2.2 hcond.2.1) rfl rfl
        · simp at h
      · simp at h
    · simp at h
  case iadA x i n sz =>
    split at h
    · rename_i key row off p hp hi
      split at h
      · rename_i j ob hj hob
        split at h
        · rename_i hn
          simp only [Option.some.injEq, Prod.mk.injEq] at h
          obtain ⟨rfl, rfl⟩ := h
          exact pure_ (does_iadA hf hc hp hi hj hn ⟨_, hob⟩) rfl rfl
        · simp at h
      · simp at h
    · simp at h
  case fad x off =>
    split at h
    · rename_i key row o' hp
      simp only [Option.map_eq_some_iff, Prod.mk.injEq] at h
      obtain ⟨ob, hob, rfl, rfl⟩ := h
      exact pure_ (does_fad_loc hf hc hp hob) rfl rfl
    · rename_i r o' hp
      simp only [Option.some.injEq, Prod.mk.injEq] at h
      obtain ⟨rfl, rfl⟩ := h
      exact pure_ (does_fad_vp hf hc hp) rfl rfl
    · simp at h
  case ld x sz ag =>
    split at h
    · rename_i p hp
      simp only [Option.map_eq_some_iff, Prod.mk.injEq] at h
      obtain ⟨d, hd, rfl, rfl⟩ := h
      exact pure_ (does_ld hm hf hc hp hd) rfl rfl
    · simp at h
  case sto sz x y =>
    split at h
    · rename_i p q hp hq
      simp only [Option.map_eq_some_iff, Prod.mk.injEq] at h
      obtain ⟨s2, hs, rfl, rfl⟩ := h
      exact does_sto hm hf hc hp hq hs
    · simp at h
  case ldF x sz =>
    split at h
    · rename_i p hp
      simp only [Option.map_eq_some_iff, Prod.mk.injEq] at h
      obtain ⟨q, hq, rfl, rfl⟩ := h
      exact ⟨kill_fr _ _, does_ldF hm hf hc hp hq⟩
    · simp at h
  case ldA x sz =>
    split at h
    · rename_i p hp
      simp only [Option.map_eq_some_iff, Prod.mk.injEq] at h
      obtain ⟨q, hq, rfl, rfl⟩ := h
      exact ⟨rfl, does_ldA hm hf hc hp hq⟩
    · simp at h
  case stoF sz x y =>
    split at h
    · rename_i p q hp hq
      split at h
      · rename_i d k hk
        simp only [Option.map_eq_some_iff, Prod.mk.injEq] at h
        obtain ⟨s2, hs, rfl, rfl⟩ := h
        exact does_stoF hm hf hc hp hq hk hs
      · simp at h
    · simp at h
  case stoG sz x y =>
    split at h
    · rename_i p q hp hq
      simp only [Option.map_eq_some_iff, Prod.mk.injEq] at h
      obtain ⟨s2, hs, rfl, rfl⟩ := h
      exact does_sto hm hf hc hp hq hs
    · simp at h
  case alc key cs =>
    split at h
    · rename_i hfree
      simp only [Option.some.injEq, Prod.mk.injEq] at h
      obtain ⟨rfl, rfl⟩ := h
      simp only [Bool.and_eq_true, decide_eq_true_eq] at hc
      exact ⟨rfl, does_alc hc.1.1 hc.1.2 hm hf hc.2 hfree⟩
    · simp at h
  case box key x =>
    split at h
    · rename_i p hp
      split at h
      · rename_i cs hcs
        split at h
        · rename_i hfree
          simp only [Option.some.injEq, Prod.mk.injEq] at h
          obtain ⟨rfl, rfl⟩ := h
          simp only [Bool.and_eq_true, decide_eq_true_eq] at hc
          exact ⟨rfl, does_box hc.1.1 hc.1.2 hm hf hc.2 hp hcs hfree⟩
        · simp at h
      · simp at h
    · simp at h
  case bld zero ps =>
    split at h
    · rename_i xs ks hps
      simp only [Option.map_eq_some_iff, Prod.mk.injEq] at h
      obtain ⟨cs, hcs, rfl, rfl⟩ := h
      exact ⟨kill_fr _ _, does_bld hm hf hc hps hcs⟩
    · simp at h
  case bldA zero ps =>
    split at h
    · rename_i xs hps
      simp only [Option.map_eq_some_iff, Prod.mk.injEq] at h
      obtain ⟨cs, hcs, rfl, rfl⟩ := h
      exact ⟨rfl, does_bldA hm hf hc hps hcs⟩
    · simp at h
  case bsl sz zero n ps =>
    split at h
    · rename_i xs ks hps
      simp only [Option.map_eq_some_iff, Prod.mk.injEq] at h
      obtain ⟨cs, hcs, rfl, rfl⟩ := h
      exact ⟨kill_fr _ _, does_bsl hm hf hc hps hcs⟩
    · simp at h
  case cvb x =>
    split at h
    · rename_i t hx
      simp only [Option.some.injEq, Prod.mk.injEq] at h
      obtain ⟨rfl, rfl⟩ := h
      exact ⟨rfl, does_cvb hm hf hc hx⟩
    · simp at h
  case bsoA key sz zero n ps =>
    simp only [Bool.and_eq_true, decide_eq_true_eq] at hc
    split at h
    · rename_i xs hps
      split at h
      · rename_i cs hcs
        split at h
        · rename_i hfree
          simp only [Bool.and_eq_true, List.all_eq_true, Bool.not_eq_true'] at hfree
          simp only [Option.some.injEq, Prod.mk.injEq] at h
          obtain ⟨rfl, rfl⟩ := h
          exact ⟨rfl, does_bsoA hc.1.1 hc.1.2 hm hf hc.2 hps hcs hfree.1.1 hfree.1.2 hfree.2⟩
        · simp at h
      · simp at h
    · simp at h
  case appM key sz bytes x y =>
    simp only [Bool.and_eq_true, decide_eq_true_eq] at hc
    split at h
    · rename_i p q hx hy
      split at h
      · rename_i z zs hsrc
        split at h
        · rename_i hz
          subst hz
          exact does_appM hc.1.1 hc.1.2 hm hf hc.2 hx hy hsrc h
        · simp at h
      · simp at h
    · simp at h
  case appR key sz bytes x y =>
    simp only [Bool.and_eq_true, decide_eq_true_eq] at hc
    split at h
    · rename_i p q hx hy
      split at h
      · rename_i ky zs hsrc
        split at h
        · simp at h
        · rename_i hky
          exact does_appZ hc.1.1 hc.1.2 hm hf hc.2 hx hy hsrc hky h
      · simp at h
    · simp at h
  case bso key sz zero n ps =>
    split at h
    · rename_i xs ks hps
      split at h
      · rename_i cs hcs
        split at h
        · rename_i hfree
          simp only [Option.some.injEq, Prod.mk.injEq] at h
          obtain ⟨rfl, rfl⟩ := h
          simp only [Bool.and_eq_true, decide_eq_true_eq] at hc
          exact ⟨kill_fr _ _, does_bso hc.1.1 hc.1.2 hm hf hc.2 hps hcs hfree⟩
        · simp at h
      · simp at h
    · simp at h
  case ssl x lo hi =>
    split at h
    · rename_i l p q hp hlo hhi
      simp only [Option.map_eq_some_iff, Prod.mk.injEq] at h
      obtain ⟨⟨i, j⟩, hb, rfl, rfl⟩ := h
      exact pure_ (does_ssl hf hc hp hlo hhi hb) rfl rfl
    · simp at h
  case lsl sz x lo hi =>
    split at h
    · rename_i z rows p q hp hlo hhi
      split at h
      · rename_i hz; subst hz
        simp only [Option.map_eq_some_iff, Prod.mk.injEq] at h
        obtain ⟨⟨i, j⟩, hb, rfl, rfl⟩ := h
        exact pure_ (does_lsl_vs hf hc hp hlo hhi hb) rfl rfl
      · simp at h
    · rename_i key ver start len p q hp hlo hhi
      split at h
      · rename_i ob hob
        split at h
        · rename_i hcond
          simp only [Option.map_eq_some_iff, Prod.mk.injEq] at h
          obtain ⟨⟨i, j⟩, hb, rfl, rfl⟩ := h
          exact pure_ (does_lsl_sl hm hf hc hp hob hcond.1 hcond.2.1 hcond.2.2 hlo hhi hb) rfl rfl
        · simp at h
      · simp at h
    · rename_i z p q hp hlo hhi
      simp only [Option.map_eq_some_iff, Prod.mk.injEq] at h
      obtain ⟨⟨i, j⟩, hb, rfl, rfl⟩ := h
      exact pure_ (does_lsl_nil hf hc hp hlo hhi hb) rfl rfl
    · simp at h
  case len b x =>
    split at h
    · rename_i p hp
      simp only [Option.map_eq_some_iff, Prod.mk.injEq] at h
      obtain ⟨d, hd, rfl, rfl⟩ := h
      exact pure_ (does_len hf hc hp hd) rfl rfl
    · simp at h
  case app key sz bytes x y =>
    split at h
    · rename_i p q hp hq
      split at h
      · rename_i z ys hys
        split at h
        · rename_i hz; subst hz
          simp only [Bool.and_eq_true, decide_eq_true_eq] at hc
          exact does_app hc.1.1 hc.1.2 hm hf hc.2 hp hq hys h
        · simp at h
      · simp at h
    · simp at h
  case mks key bytes zero n c =>
    split at h
    · rename_i p q hp hq
      split at h
      · rename_i m k hm' hk
        split at h
        · rename_i hcond
          simp only [Bool.and_eq_true] at hcond
          simp only [Option.some.injEq, Prod.mk.injEq] at h
          obtain ⟨rfl, rfl⟩ := h
          simp only [Bool.and_eq_true, decide_eq_true_eq] at hc
          exact ⟨rfl, does_mks hc.1.1 hc.1.2 hm hf hc.2 hp hq hm' hk hcond.1 hcond.2.1 hcond.2.2⟩
        · simp at h
      · simp at h
    · simp at h
  case mkf g xs =>
    split at h
    · rename_i vs hvs
      split at h
      · rename_i hD
        simp only [Option.some.injEq, Prod.mk.injEq] at h
        obtain ⟨rfl, rfl⟩ := h
        exact ⟨rfl, (does_mkf hf hc hvs hD).post hm hf⟩
      · simp at h
    · simp at h
  case call f args =>
    split at h
    · simp at h
    · rename_i vs hvs
      split at h
      · simp at h
      · rename_i ds ks hds
        split at h
        · simp at h
        · rename_i rs hrs
          simp only [Option.some.injEq, Prod.mk.injEq] at h
          obtain ⟨rfl, rfl⟩ := h
          refine ⟨?_, does_call_ hm hf hΓ.fn hc hvs hds hrs⟩
          split
          · rfl
          · exact kill_fr _ _
  case callP f xs =>
    split at h
    · simp at h
    · rename_i vs hvs
      split at h
      · simp at h
      · rename_i rs ob' hrs
        simp only [Option.map_eq_some_iff, Prod.mk.injEq] at h
        obtain ⟨u, hu, rfl, rfl⟩ := h
        exact ⟨rfl, does_callP hm hf hΓ hc hvs hrs hu⟩
  case callQ f xs =>
    split at h
    · simp at h
    · rename_i vs hvs
      split at h
      · simp at h
      · rename_i rs ob' hrs
        split at h
        · rename_i hq
          have hq := eqOb_eq _ _ hq
          subst hq
          simp only [Option.map_eq_some_iff, Prod.mk.injEq] at h
          obtain ⟨u, hu, rfl, rfl⟩ := h
          exact ⟨rfl, does_callP hm hf hΓ hc hvs hrs hu⟩
        · simp at h
  case callC f g n x xs =>
    split at h
    · rename_i g' cs vs hx hvs
      split at h
      · rename_i hcnd
        obtain ⟨rfl, hcn, hGB⟩ := hcnd
        split at h
        · simp at h
        · rename_i rs ob' hrs
          simp only [Option.map_eq_some_iff, Prod.mk.injEq] at h
          obtain ⟨u, hu, rfl, rfl⟩ := h
          exact ⟨rfl, does_callC hm hf hΓ hc hx hvs hcn hGB hrs hu⟩
      · simp at h
    · simp at h
  case callV x xs =>
    split at h
    · rename_i g vs hx hvs
      split at h
      · simp at h
      · rename_i ds ks hds
        split at h
        · simp at h
        · rename_i rs hrs
          simp only [Option.some.injEq, Prod.mk.injEq] at h
          obtain ⟨rfl, rfl⟩ := h
          refine ⟨?_, does_callV hm hf hΓ hc hx hvs hds hrs⟩
          split
          · rfl
          · exact kill_fr _ _
    · simp at h
  case mn x xs =>
    split at h
    · rename_i k n vs hp hvs
      simp only [Option.map_eq_some_iff, Prod.mk.injEq] at h
      obtain ⟨d, hd, rfl, rfl⟩ := h
      exact pure_ (does_mn hf hc hp hvs hd) rfl rfl
    · simp at h
  case mx x xs =>
    split at h
    · rename_i k n vs hp hvs
      simp only [Option.map_eq_some_iff, Prod.mk.injEq] at h
      obtain ⟨d, hd, rfl, rfl⟩ := h
      exact pure_ (does_mx hf hc hp hvs hd) rfl rfl
    · simp at h
  case nilc x =>
    split at h
    · rename_i key row off hp
      simp only [Option.map_eq_some_iff, Prod.mk.injEq] at h
      obtain ⟨ob, hob, rfl, rfl⟩ := h
      exact pure_ (does_nilc hf hc hp hob) rfl rfl
    · simp at h
  case shf l x y =>
    split at h
    · rename_i k p k' q hp hq
      simp only [Option.map_eq_some_iff, Prod.mk.injEq] at h
      obtain ⟨d, hd, rfl, rfl⟩ := h
      exact pure_ (does_shf hf hc hp hq hd) rfl rfl
    · simp at h
  case idp ty sz x =>
    split at h
    · rename_i key hp
      split at h
      · rename_i o0 hob
        split at h
        · rename_i hcond
          simp only [Option.some.injEq, Prod.mk.injEq] at h
          obtain ⟨rfl, rfl⟩ := h
          exact pure_ (does_idp hm hf hc hp (.inr ⟨key, o0, rfl, hob, hcond⟩)) rfl rfl
        · simp at h
      · simp at h
    · rename_i hp
      simp only [Option.some.injEq, Prod.mk.injEq] at h
      obtain ⟨rfl, rfl⟩ := h
      exact pure_ (does_idp hm hf hc hp (.inl rfl)) rfl rfl
    · simp at h
  case isn k neg x =>
    split at h
    · rename_i p hp
      simp only [Option.map_eq_some_iff, Prod.mk.injEq] at h
      obtain ⟨b, hb, rfl, rfl⟩ := h
      exact pure_ (does_isn hf hc hp hb) rfl rfl
    · simp at h
  case peq neg x y =>
    split at h
    · rename_i p q hp hq
      simp only [Option.map_eq_some_iff, Prod.mk.injEq] at h
      obtain ⟨b, hb, rfl, rfl⟩ := h
      exact pure_ (does_peq hm hf hc hp hq hb) rfl rfl
    · simp at h
  case sdat x =>
    split at h
    · rename_i z hp
      simp only [Option.some.injEq, Prod.mk.injEq] at h
      obtain ⟨rfl, rfl⟩ := h
      exact ⟨rfl, does_sdat_nil hm hf hc hp⟩
    · rename_i key ver n hp
      split at h
      · rename_i o0 hob
        split at h
        · rename_i hcond
          obtain ⟨rfl, rfl, _⟩ := hcond
          simp only [Option.some.injEq, Prod.mk.injEq] at h
          obtain ⟨rfl, rfl⟩ := h
          exact ⟨rfl, does_sdat hm hf hc hp hob rfl⟩
        · simp at h
      · simp at h
    · simp at h
  case ustr ty x n =>
    split at h
    · rename_i m hp hq
      split at h
      · rename_i h0; subst h0
        simp only [Option.some.injEq, Prod.mk.injEq] at h
        obtain ⟨rfl, rfl⟩ := h
        exact ⟨rfl, does_ustr_jk hm hf hc hp hq⟩
      · simp at h
    · rename_i key m hp hq
      split at h
      · rename_i o0 hob
        split at h
        · rename_i rows hrows
          split at h
          · rename_i hcond
            obtain ⟨rfl, h3, h4, h5, h6, h7, h8⟩ := hcond
            simp only [Option.some.injEq, Prod.mk.injEq] at h
            obtain ⟨rfl, rfl⟩ := h
            exact ⟨rfl, does_ustr hm hf hc hp hq hob hrows h3 h4 h5 h6 h7 h8⟩
          · simp at h
        · simp at h
      · simp at h
    · simp at h
  case mmk key =>
    simp only [Bool.and_eq_true, decide_eq_true_eq] at hc
    split at h
    · rename_i hfree
      simp only [Option.some.injEq, Prod.mk.injEq] at h
      obtain ⟨rfl, rfl⟩ := h
      exact ⟨rfl, does_mmk hm hf hc.1.1 hc.1.2 hc.2 hfree⟩
    · simp at h
  case mget ks zero ok x i =>
    split at h
    · rename_i k hp hq
      split at h
      · rename_i hk
        simp only [Option.map_eq_some_iff, Prod.mk.injEq] at h
        obtain ⟨u, hu, rfl, rfl⟩ := h
        exact pure_ (does_mget_nil hf hc hp hq hk hu) rfl rfl
      · simp at h
    · rename_i key k hp hq
      split at h
      · rename_i o0 hob
        split at h
        · rename_i hk
          split at h
          · rename_i j u hfd
            simp only [Option.map_eq_some_iff, Prod.mk.injEq] at h
            obtain ⟨y, hy, rfl, rfl⟩ := h
            exact pure_ (does_mget hm hf hc hp hq hob hk hfd hy) rfl rfl
          · rename_i hfd
            simp only [Option.map_eq_some_iff, Prod.mk.injEq] at h
            obtain ⟨y, hy, rfl, rfl⟩ := h
            exact pure_ (does_mget hm hf hc hp hq hob hk hfd hy) rfl rfl
          · simp at h
        · simp at h
      · simp at h
    · simp at h
  case mset ks x i y =>
    split at h
    · rename_i key k u hp hq hy
      split at h
      · rename_i o0 hob
        split at h
        · rename_i hk
          simp only [Option.map_eq_some_iff, Prod.mk.injEq] at h
          obtain ⟨s2, hs, rfl, rfl⟩ := h
          exact does_mset hm hf hc hp hq hy hob hk hs
        · simp at h
      · simp at h
    · simp at h
  case ment ks zero x i =>
    split at h
    · rename_i key k hp hq
      split at h
      · rename_i o0 hob
        split at h
        · rename_i hk
          exact does_ment hm hf hc hp hq hob hk h
        · simp at h
      · simp at h
    · simp at h
  case mest x i y =>
    split at h
    · rename_i key n u hp hq hy
      split at h
      · rename_i o0 hob
        split at h
        · rename_i j hfd
          split at h
          · rename_i st k u0 hj
            simp only [Option.some.injEq, Prod.mk.injEq] at h
            obtain ⟨rfl, rfl⟩ := h
            exact ⟨rfl, does_mest hm hf hc hp hq hy hob hfd hj⟩
          · simp at h
        · simp at h
      · simp at h
    · simp at h
  case mdel ks x i =>
    split at h
    · rename_i k hp hq
      split at h
      · rename_i hk
        simp only [Option.some.injEq, Prod.mk.injEq] at h
        obtain ⟨rfl, rfl⟩ := h
        exact pure_ (does_mdel_nil hm hf hc hp hq hk) rfl rfl
      · simp at h
    · rename_i key k hp hq
      split at h
      · rename_i o0 hob
        split at h
        · rename_i hk
          split at h
          · rename_i j u hfd
            simp only [Option.some.injEq, Prod.mk.injEq] at h
            obtain ⟨rfl, rfl⟩ := h
            exact ⟨rfl, does_mdel hm hf hc hp hq hob hk hfd⟩
          · rename_i hfd
            simp only [Option.some.injEq, Prod.mk.injEq] at h
            obtain ⟨rfl, rfl⟩ := h
            exact ⟨rfl, does_mdel hm hf hc hp hq hob hk hfd⟩
          · simp at h
        · simp at h
      · simp at h
    · simp at h
  case mlen x =>
    split at h
    · rename_i hp
      simp only [Option.some.injEq, Prod.mk.injEq] at h
      obtain ⟨rfl, rfl⟩ := h
      exact pure_ (does_mlen hm hf hc hp (.inl ⟨rfl, rfl⟩)) rfl rfl
    · rename_i key hp
      simp only [Option.map_eq_some_iff, Prod.mk.injEq] at h
      obtain ⟨o0, hob, rfl, rfl⟩ := h
      exact pure_ (does_mlen hm hf hc hp (.inr ⟨key, o0, rfl, hob, rfl⟩)) rfl rfl
    · simp at h
  case rng key x =>
    simp only [Bool.and_eq_true, decide_eq_true_eq] at hc
    split at h
    · rename_i hp
      split at h
      · rename_i hfree
        simp only [Option.some.injEq, Prod.mk.injEq] at h
        obtain ⟨rfl, rfl⟩ := h
        exact ⟨rfl, does_rng hc.1 hm hf hc.2 hp hfree (.inl ⟨rfl, rfl⟩)⟩
      · simp at h
    · rename_i k hp
      split at h
      · rename_i o0 hob
        split at h
        · rename_i hfree
          simp only [Option.some.injEq, Prod.mk.injEq] at h
          obtain ⟨rfl, rfl⟩ := h
          exact ⟨rfl, does_rng hc.1 hm hf hc.2 hp hfree (.inr ⟨k, o0, rfl, hob, rfl⟩)⟩
        · simp at h
      · simp at h
    · simp at h
  case ent x =>
    split at h
    · rename_i key hp
      split at h
      · rename_i o0 hob
        split at h
        · rename_i mk since seen hr0
          split at h
          · rename_i om b hom hl
            split at h
            · rename_i st k v0 hfd
              split at h
              · rename_i hcond
                simp only [Bool.and_eq_true, decide_eq_true_eq] at hcond
                simp only [Option.some.injEq, Prod.mk.injEq] at h
                obtain ⟨rfl, rfl⟩ := h
                exact pure_ (does_ent hm hf hc hp hob hr0 hom hl hfd hcond.1.1 hcond.1.2 hcond.2) rfl rfl
              · simp at h
            · simp at h
          · simp at h
        · simp at h
      · simp at h
    · simp at h

/-! ### Statements whose order is the text's -/
/-- The state, held against the model's. -/
def valG (γ : Array Value) (a : Go.Act) (i : Nat) : Value := if i < GB then a.tmps.getD i undef else γ.getD (i - GB) undef
def FrG (γ : Array Value) (F : Facts) (ρ : Map) (ob : List (Nat × Obj)) (fr : List (Nat × AV)) (a : Go.Act) : Prop := ∀ i v, get fr i = some v → AR F ρ ob v (valG γ a i)
theorem val_pad {γ : Array Value} {a : Go.Act} (hs : a.tmps.size ≤ GB) (i : Nat) : (padA a γ).tmps.getD i undef = valG γ a i := by
  unfold valG
  by_cases h : i < GB
  · rw [if_pos h, pad_getD_lt a γ i hs h]
  · rw [if_neg h]
    have := pad_getD_ge a γ (i - GB) hs
    rwa [show GB + (i - GB) = i by omega] at this
theorem FrG.pad {γ : Array Value} {F : Facts} {ρ : Map} {ob : List (Nat × Obj)} {fr : List (Nat × AV)} {a : Go.Act} (hs : a.tmps.size ≤ GB) : FrG γ F ρ ob fr a ↔ Fr F ρ ob fr (padA a γ) := by
  unfold FrG Fr
  constructor
  · intro h i v hi; rw [val_pad hs]; exact h i v hi
  · intro h i v hi; rw [← val_pad hs]; exact h i v hi
def Rel (γ : Array Value) (B : Nat) (F0 : Facts) (w0 : World) (N : Nat) (s : St) (a : Go.Act) (w : World) : Prop :=
  N ≤ GB ∧ ∃ F ρ, Mem B F ρ s.ob w ∧ FrG γ F ρ s.ob s.fr a ∧ Ext B F0 F w0 w ∧ a.tmps.size = N ∧ a.defers = []
theorem put_getD (a : Go.Act) (d i : Nat) (u : Value) (hd : d < a.tmps.size) : (a.put (some d) u).tmps.getD i undef = if i = d then u else a.tmps.getD i undef := by
  simp only [Go.Act.put, Array.getD_eq_getD_getElem?, Array.getElem?_setIfInBounds]
  by_cases h : d = i
  · subst h; simp [hd]
  · rw [if_neg h, if_neg (Ne.symm h)]
theorem put_size (a : Go.Act) (d : Option Nat) (u : Value) : (a.put d u).tmps.size = a.tmps.size := by cases d <;> simp [Go.Act.put]
theorem put_defers (a : Go.Act) (d : Option Nat) (u : Value) : (a.put d u).defers = a.defers := by cases d <;> rfl
theorem valG_put (γ : Array Value) (a : Go.Act) (d i : Nat) (u : Value) (hd : d < a.tmps.size) (hs : a.tmps.size ≤ GB) : valG γ (a.put (some d) u) i = if i = d then u else valG γ a i := by
  unfold valG
  by_cases h : i < GB
  · rw [if_pos h, if_pos h, put_getD a d i u hd]
  · rw [if_neg h, if_neg h, if_neg (by omega)]
theorem Rel.put1 {γ : Array Value} {B : Nat} {F0 F : Facts} {w0 w w' : World} {N : Nat} {s s' : St} {a : Go.Act} {d : Option Nat} {v : AV} {u : Value} (hG : N ≤ GB) (hfr : s'.fr = s.fr) (he : Ext B F0 F w0 w) (hN : a.tmps.size = N) (hdf : a.defers = []) (hd : ∀ i, d = some i → i < N)
    (hp : Post B F w s.fr (padA a γ) s'.ob v u w') : Rel γ B F0 w0 N (s'.put d v) (a.put d u) w' := by
  obtain ⟨F', ρ', hm', hf', hv, he'⟩ := hp
  have hf' := (FrG.pad (by omega)).2 hf'
  refine ⟨hG, F', ρ', by cases d <;> exact hm', ?_, he.trans he', by rw [put_size, hN], by rw [put_defers, hdf]⟩
  cases d with
  | none => simp only [St.put, Go.Act.put, hfr]; exact hf'
  | some d =>
    intro i x hx
    simp only [St.put, get_cons, hfr] at hx ⊢
    have hdN := hd d rfl
    rw [valG_put _ _ _ _ _ (by omega) (by omega)]
    by_cases hdi : d = i
    · subst hdi; simp at hx; subst hx; simp; exact hv
    · rw [if_neg hdi] at hx; rw [if_neg (Ne.symm hdi)]; exact hf' i x hx
theorem Rel.put {γ : Array Value} {B : Nat} {F0 : Facts} {w0 : World} {N : Nat} {s s' : St} {a : Go.Act} {w w' : World} {d : Option Nat} {v : AV} {u : Value} (hr : Rel γ B F0 w0 N s a w) (hd : ∀ i, d = some i → i < N) (hfr : s'.fr = s.fr)
    (h : ∀ F ρ, Mem B F ρ s.ob w → Fr F ρ s.ob s.fr (padA a γ) → Ext B F0 F w0 w → Post B F w s.fr (padA a γ) s'.ob v u w') : Rel γ B F0 w0 N (s'.put d v) (a.put d u) w' := by
  obtain ⟨hG, F, ρ, hm, hf, he, hN, hdf⟩ := hr
  exact Rel.put1 hG hfr he hN hdf hd (h F ρ hm ((FrG.pad (by omega)).1 hf) he)

/-- The guard of an operation. -/
def guardOk (ops : Array Oper) (g : Option (Nat × Bool)) (o : Oper) : Bool :=
  match g, o.guard with
  | none, none => true
  | some (t, want), some (j, want') => want == want' && (ops[j]?).bind (·.dst) == some t && decide (t < GB)
  | _, _ => false
def dstOk (N : Nat) (gs : List Nat) (d : Option Nat) : Bool := match d with | none => true | some i => decide (i < N) && !gs.contains i
def pickOf (c : Opd) (want : Bool) (x : Opd) : Act := if want then .pick c x (.k (.c (.bool false))) else .pick c (.k (.c (.bool true))) x
def Act.still : Act → Bool
  | .frz .. | .sto .. | .stoG .. | .stoF .. | .ldF .. | .ldA .. | .alc .. | .box .. | .bld .. | .bldA .. | .bsl .. | .cvb .. | .bso .. | .bsoA .. | .appR .. | .appM .. | .app .. | .mks .. | .call .. | .callP .. | .callQ .. | .callV .. | .callC .. | .ustr .. | .sdat .. | .mmk .. | .mset .. | .ment .. | .mest .. | .mdel .. | .rng .. => false
  | _ => true
def AI.still : AI → Bool
  | .done => true
  | .op _ a r => a.still && r.still
  | .sc _ _ _ sub _ r => sub.still && r.still
  | .scs _ _ _ sub _ r => sub.still && r.still
def chkActG (P : Program) (nm : Nat → Option Nat) (o : Oper) (A : Act) : Bool := chkAct P nm o A && opsLt o && noSelect o
/-- Do the operations of a statement begin with these? What is left. 'g': their guard; 'gs': the guards' slots around; 'loc': the slots written so far under this guard. -/
def chkAI (P : Program) (nm : Nat → Option Nat) (N : Nat) (ops : Array Oper) : AI → Option (Nat × Bool) → List Nat → List Nat → List Oper → Option (List Oper)
  | .done, _, _, _, l => some l
  | .op d A r, g, gs, loc, l => match l with
    | [] => none
    | o :: l => if guardOk ops g o && o.dst == d && dstOk N gs d && chkActG P nm o A then chkAI P nm N ops r g gs (d.toList ++ loc) l else none
  | .sc d c want sub x r, g, gs, loc, l => match c with
    | .k _ => none
    | .t t => if (g.isNone || loc.contains t) && decide (t < GB) then match chkAI P nm N ops sub (some (t, want)) (t :: gs) [] l with
        | some (o :: l') => if guardOk ops g o && o.dst == some d && dstOk N gs (some d) && chkActG P nm o (pickOf (.t t) want x) then chkAI P nm N ops r g gs (d :: loc) l' else none
        | _ => none
      else none
  | .scs d c want sub x r, g, gs, loc, l => match c with
    | .k _ => none
    | .t t => if (g.isNone || loc.contains t) && decide (t < GB) && sub.still then match chkAI P nm N ops sub (some (t, want)) (t :: gs) [] l with
        | some (o :: l') => if guardOk ops g o && o.dst == some d && dstOk N gs (some d) && chkActG P nm o (pickOf (.t t) want x) then chkAI P nm N ops r g gs (d :: loc) l' else none
        | _ => none
      else none
/-- The guard's slot holds what is wanted. -/
def Met (g : Option (Nat × Bool)) (s : St) : Prop := match g with | none => True | some (t, want) => get s.fr t = some (.c (.bool want))
theorem wanted_of {ops : Array Oper} {g : Option (Nat × Bool)} {o : Oper} {s : St} {a : Go.Act} {γ : Array Value} {F : Facts} {ρ : Map} (hg : guardOk ops g o = true) (hM : Met g s) (hf : FrG γ F ρ s.ob s.fr a) : Region.wanted o (yielded ops a.tmps) = true := by
  unfold guardOk at hg
  split at hg
  · rename_i h; simp [Region.wanted, h]
  · rename_i t want j want' h
    simp only [Bool.and_eq_true, beq_iff_eq, decide_eq_true_eq] at hg
    obtain ⟨⟨rfl, hj⟩, htG⟩ := hg
    have hv := DR.bool_ (hf t _ hM)
    rw [valG, if_pos htG] at hv
    have : a.tmps[t]? = some (.bool want) := by
      rw [Array.getD_eq_getD_getElem?] at hv
      cases hx : a.tmps[t]? with
      | none => rw [hx] at hv; simp [undef] at hv
      | some y => rw [hx] at hv; simp at hv; rw [hv]
    simp [Region.wanted, h, yielded, hj, this]
  · simp at hg
/-- Only these slots may have turned, and to nothing. -/
def But (ds : List Nat) (a a' : Go.Act) : Prop := a'.tmps.size = a.tmps.size ∧ a'.defers = a.defers ∧ (∀ i, i ∉ ds → a'.tmps.getD i undef = a.tmps.getD i undef) ∧ ∀ i, a'.tmps.getD i undef = a.tmps.getD i undef ∨ a'.tmps.getD i undef = undef
theorem But.refl (ds : List Nat) (a : Go.Act) : But ds a a := ⟨rfl, rfl, fun _ _ => rfl, fun _ => .inl rfl⟩
theorem But.trans {ds es : List Nat} {a b c : Go.Act} (h : But ds a b) (k : But es b c) : But (ds ++ es) a c :=
  ⟨k.1.trans h.1, k.2.1.trans h.2.1, fun i hi => by rw [k.2.2.1 i (by simp at hi; exact hi.2), h.2.2.1 i (by simp at hi; exact hi.1)], fun i => by
    rcases k.2.2.2 i with h1 | h1
    · rw [h1]; exact h.2.2.2 i
    · exact .inr h1⟩
theorem But.put {a : Go.Act} (d : Option Nat) : But d.toList a (a.put d undef) := by
  refine ⟨put_size a d _, put_defers a d _, fun i hi => ?_, fun i => ?_⟩
  · cases d with
    | none => rfl
    | some d =>
      have hne : d ≠ i := by simp at hi; exact fun h => hi h.symm
      simp only [Go.Act.put, Array.getD_eq_getD_getElem?, Array.getElem?_setIfInBounds]
      rw [if_neg hne]
  · cases d with
    | none => exact .inl rfl
    | some d =>
      simp only [Go.Act.put, Array.getD_eq_getD_getElem?, Array.getElem?_setIfInBounds]
      by_cases hd : d = i
      · rw [if_pos hd]; right; split <;> rfl
      · rw [if_neg hd]; exact .inl rfl
theorem But.mono {ds es : List Nat} {a b : Go.Act} (h : But ds a b) (hs : ∀ i ∈ ds, i ∈ es) : But es a b := ⟨h.1, h.2.1, fun i hi => h.2.2.1 i fun hd => hi (hs i hd), h.2.2.2⟩
theorem But.undef {ds : List Nat} {a b : Go.Act} (h : But ds a b) {i : Nat} (hi : a.tmps.getD i undef = undef) : b.tmps.getD i undef = undef := by
  rcases h.2.2.2 i with h1 | h1
  · rw [h1, hi]
  · exact h1
theorem put_undef (a : Go.Act) (d : Nat) : (a.put (some d) undef).tmps.getD d undef = undef := by
  simp only [Go.Act.put, Array.getD_eq_getD_getElem?, Array.getElem?_setIfInBounds]
  simp
  split <;> rfl
theorem chk_dsts {nm : Nat → Option Nat} {N : Nat} {ops : Array Oper} (ai : AI) : ∀ {g : Option (Nat × Bool)} {gs loc : List Nat} {l l' : List Oper}, chkAI P nm N ops ai g gs loc l = some l' → ∀ d ∈ ai.dsts, d ∉ gs ∧ d < N := by
  induction ai with
  | done => intro g gs loc l l' h d hd; simp [AI.dsts] at hd
  | op e A r ih =>
    intro g gs loc l l' h d hd
    simp only [chkAI] at h
    split at h
    · simp at h
    · split at h
      · rename_i hcond
        simp only [Bool.and_eq_true] at hcond
        cases e with
        | none => exact ih h d (by simpa [AI.dsts] using hd)
        | some e =>
          simp only [AI.dsts, List.mem_cons] at hd
          rcases hd with rfl | hd
          · have := hcond.1.2; simp [dstOk] at this; exact ⟨this.2, this.1⟩
          · exact ih h d hd
      · simp at h
  | sc e c wt sub x r ihs ihr =>
    intro g gs loc l l' h d hd
    simp only [chkAI] at h
    split at h
    · simp at h
    · split at h
      · split at h
        · rename_i hsub
          split at h
          · rename_i hcond
            simp only [Bool.and_eq_true] at hcond
            simp only [AI.dsts, List.mem_append, List.mem_cons] at hd
            rcases hd with hd | rfl | hd
            · have := ihs hsub d hd
              exact ⟨fun h => this.1 (List.mem_cons_of_mem _ h), this.2⟩
            · have := hcond.1.2; simp [dstOk] at this; exact ⟨this.2, this.1⟩
            · exact ihr h d hd
          · simp at h
        · simp at h
      · simp at h
  | scs e c wt sub x r ihs ihr =>
    intro g gs loc l l' h d hd
    simp only [chkAI] at h
    split at h
    · simp at h
    · split at h
      · split at h
        · rename_i hsub
          split at h
          · rename_i hcond
            simp only [Bool.and_eq_true] at hcond
            simp only [AI.dsts, List.mem_append, List.mem_cons] at hd
            rcases hd with hd | rfl | hd
            · have := ihs hsub d hd
              exact ⟨fun h => this.1 (List.mem_cons_of_mem _ h), this.2⟩
            · have := hcond.1.2; simp [dstOk] at this; exact ⟨this.2, this.1⟩
            · exact ihr h d hd
          · simp at h
        · simp at h
      · simp at h
/-- Where the guard's slot does not hold what is wanted, nothing is done. -/
theorem skip_sound {nm : Nat → Option Nat} {N : Nat} {ops : Array Oper} {Q : Exit → Go.Act → World → Prop} (ai : AI) : ∀ {t : Nat} {want : Bool} {gs loc : List Nat} {l l' : List Oper} {a : Go.Act} {w : World},
    chkAI P nm N ops ai (some (t, want)) (t :: gs) loc l = some l' → a.tmps.getD t undef ≠ .bool want → (∀ q ∈ loc, a.tmps.getD q undef = undef) →
    (∀ a', But ai.dsts a a' → wpList P ops Q l' a' w) → wpList P ops Q l a w := by
  -- one operation that is not wanted
  have one : ∀ {t : Nat} {want : Bool} {o : Oper} {l : List Oper} {a : Go.Act} {w : World}, guardOk ops (some (t, want)) o = true → a.tmps.getD t undef ≠ .bool want → wpList P ops Q l (a.put o.dst undef) w → wpList P ops Q (o :: l) a w := by
    intro t want o l a w hg hn h
    have hw : Region.wanted o (yielded ops a.tmps) = false := by
      unfold guardOk at hg
      split at hg
      · rename_i h1 h2; simp at h1
      · rename_i t' want' j want'' h1 h2
        simp only [Option.some.injEq, Prod.mk.injEq] at h1
        obtain ⟨rfl, rfl⟩ := h1
        simp only [Bool.and_eq_true, beq_iff_eq] at hg
        obtain ⟨⟨rfl, hj⟩, _⟩ := hg
        simp only [Region.wanted, h2, yielded, hj, Option.bind_some]
        split
        · rename_i b hb
          have : a.tmps.getD t undef = .bool b := by rw [Array.getD_eq_getD_getElem?, hb]; rfl
          rw [this] at hn
          simp only [ne_eq, Value.bool.injEq] at hn
          simp [hn]
        · simp
      · simp at hg
    simp only [wpList, hw, Bool.false_eq_true, if_false]
    exact h
  induction ai with
  | done =>
    intro t want gs loc l l' a w h hn hl hk
    simp only [chkAI, Option.some.injEq] at h; subst h
    exact hk a (.refl _ _)
  | op d A r ih =>
    intro t want gs loc l l' a w h hn hl hk
    simp only [chkAI] at h
    split at h
    · simp at h
    · rename_i o l0
      split at h
      · rename_i hcond
        simp only [Bool.and_eq_true, beq_iff_eq] at hcond
        obtain ⟨⟨⟨hg, hd⟩, hdo⟩, _⟩ := hcond
        subst hd
        refine one hg hn (ih h ?_ ?_ fun a' hb => hk a' ?_)
        · cases hd : o.dst with
          | none => exact hn
          | some i =>
            have hit : t ≠ i := by rw [hd] at hdo; simp [dstOk] at hdo; exact fun h => hdo.2.1 h.symm
            rw [(But.put (a := a) (some i)).2.2.1 t (by simpa using hit)]; exact hn
        · intro q hq
          cases hd : o.dst with
          | none => rw [hd] at hq; exact hl q (by simpa using hq)
          | some i =>
            rw [hd] at hq
            simp at hq
            rcases hq with rfl | hq
            · exact put_undef a q
            · exact (But.put (a := a) (some i)).undef (hl q hq)
        · refine ((But.put o.dst).trans hb).mono fun i hi => ?_
          cases hd : o.dst <;> rw [hd] at hi <;> simp [AI.dsts] at hi ⊢ <;> exact hi
      · simp at h
  | sc d c wt sub x r ihs ihr =>
    intro t want gs loc l l' a w h hn hl hk
    simp only [chkAI] at h
    split at h
    · simp at h
    · rename_i t2
      split at h
      · rename_i hc
        simp only [Bool.and_eq_true] at hc
        have hc : t2 ∈ loc := by first | (simpa using hc.1) | (simpa using hc.1.1)
        split at h
        · rename_i o l0 hsub
          split at h
          · rename_i hcond
            simp only [Bool.and_eq_true, beq_iff_eq] at hcond
            obtain ⟨⟨⟨hg, hd⟩, hdo⟩, _⟩ := hcond
            have hd2 : t ≠ d := by simp [dstOk] at hdo; exact fun h => hdo.2.1 h.symm
            have hts : t ∉ sub.dsts := fun hm => (chk_dsts sub hsub t hm).1 (by simp)
            refine ihs hsub (by rw [hl t2 hc]; simp [undef]) (by simp) fun a1 hb1 => ?_
            have hn1 : a1.tmps.getD t undef ≠ .bool want := by rw [hb1.2.2.1 t hts]; exact hn
            refine one hg hn1 ?_
            rw [hd]
            refine ihr h (by rw [(But.put (a := a1) (some d)).2.2.1 t (by simpa using hd2)]; exact hn1) ?_ fun a2 hb2 => hk a2 ?_
            · intro q hq
              simp only [List.mem_cons] at hq
              rcases hq with rfl | hq
              · exact put_undef a1 q
              · exact (But.put (a := a1) (some d)).undef (hb1.undef (hl q hq))
            · exact (hb1.trans ((But.put (some d)).trans hb2)).mono fun i hi => by simpa [AI.dsts] using hi
          · simp at h
        · simp at h
      · simp at h
  | scs d c wt sub x r ihs ihr =>
    intro t want gs loc l l' a w h hn hl hk
    simp only [chkAI] at h
    split at h
    · simp at h
    · rename_i t2
      split at h
      · rename_i hc
        simp only [Bool.and_eq_true] at hc
        have hc : t2 ∈ loc := by first | (simpa using hc.1) | (simpa using hc.1.1)
        split at h
        · rename_i o l0 hsub
          split at h
          · rename_i hcond
            simp only [Bool.and_eq_true, beq_iff_eq] at hcond
            obtain ⟨⟨⟨hg, hd⟩, hdo⟩, _⟩ := hcond
            have hd2 : t ≠ d := by simp [dstOk] at hdo; exact fun h => hdo.2.1 h.symm
            have hts : t ∉ sub.dsts := fun hm => (chk_dsts sub hsub t hm).1 (by simp)
            refine ihs hsub (by rw [hl t2 hc]; simp [undef]) (by simp) fun a1 hb1 => ?_
            have hn1 : a1.tmps.getD t undef ≠ .bool want := by rw [hb1.2.2.1 t hts]; exact hn
            refine one hg hn1 ?_
            rw [hd]
            refine ihr h (by rw [(But.put (a := a1) (some d)).2.2.1 t (by simpa using hd2)]; exact hn1) ?_ fun a2 hb2 => hk a2 ?_
            · intro q hq
              simp only [List.mem_cons] at hq
              rcases hq with rfl | hq
              · exact put_undef a1 q
              · exact (But.put (a := a1) (some d)).undef (hb1.undef (hl q hq))
            · exact (hb1.trans ((But.put (some d)).trans hb2)).mono fun i hi => by simpa [AI.dsts] using hi
          · simp at h
        · simp at h
      · simp at h

theorem act_still {Γ : Env} {s s' : St} {A : Act} {v : AV} (hA : A.still = true) (h : act Γ s A = some (v, s')) : s' = s := by
  cases A <;> simp only [Act.still, Bool.false_eq_true] at hA <;> simp only [act] at h <;> (repeat' split at h) <;> (try simp only [Option.map_eq_some_iff, Prod.mk.injEq, Option.some.injEq, reduceCtorEq] at h) <;>
    first
    | (obtain ⟨_, _, _, rfl⟩ := h; rfl)
    | (obtain ⟨_, rfl⟩ := h; rfl)
    | exact h.elim
theorem ev_still {Γ : Env} (ai : AI) : ∀ {s s' : St}, ai.still = true → ev Γ ai s = some s' → s'.ob = s.ob := by
  induction ai with
  | done => intro s s' _ h; simp only [ev, Option.some.injEq] at h; rw [h]
  | op d A r ih =>
    intro s s' hs h
    simp only [AI.still, Bool.and_eq_true] at hs
    simp only [ev] at h
    split at h
    · rename_i v s1 h1
      have := act_still hs.1 h1
      subst this
      rw [ih hs.2 h]; cases d <;> rfl
    · simp at h
  | sc d c want sub x r ihs ihr =>
    intro s s' hs h
    simp only [AI.still, Bool.and_eq_true] at hs
    simp only [ev] at h
    split at h
    · split at h
      · split at h
        · rename_i s1 h1
          split at h
          · rw [ihr hs.2 h]; show s1.ob = s.ob; exact ihs hs.1 h1
          · simp at h
        · simp at h
      · rw [ihr hs.2 h]; rfl
    · simp at h
  | scs d c want sub x r ihs ihr =>
    intro s s' hs h
    simp only [AI.still, Bool.and_eq_true] at hs
    simp only [ev] at h
    split at h
    · split at h
      · rw [ihr hs.2 h]; rfl
      · simp at h
    · simp at h
theorem get_dels {α : Type} : ∀ (ks : List Nat) (l : List (Nat × α)) (i : Nat), get (dels ks l) i = if i ∈ ks then none else get l i
  | [], l, i => by simp [dels]
  | k :: ks, l, i => by
    simp only [dels]
    rw [get_dels ks, get_del]
    by_cases h1 : i ∈ ks <;> by_cases h2 : i = k <;> simp [h1, h2]
theorem Rel.drop {γ : Array Value} {B : Nat} {F0 : Facts} {w0 : World} {N : Nat} {s s1 : St} {a a1 : Go.Act} {w : World} {ai : AI} (hr : Rel γ B F0 w0 N s1 a w) (hob : s1.ob = s.ob) (hg : ∀ i, i ∉ ai.dsts → get s1.fr i = get s.fr i) (ha : But ai.dsts a a1) : Rel γ B F0 w0 N (s.drop ai) a1 w := by
  obtain ⟨hG, F, ρ, hm, hf, he, hN, hdf⟩ := hr
  refine ⟨hG, F, ρ, by simpa [St.drop, ← hob] using hm, fun i v hi => ?_, he, by rw [ha.1, hN], by rw [ha.2.1, hdf]⟩
  simp only [St.drop, get_dels] at hi
  split at hi
  · simp at hi
  · rename_i hid
    rw [← hg i hid] at hi
    have := hf i v hi
    rw [hob] at this
    have hv : valG γ a1 i = valG γ a i := by
      unfold valG
      split
      · exact ha.2.2.1 i hid
      · rfl
    rw [hv]; exact this
set_option maxHeartbeats 1000000 in
theorem ev_sound {nm : Nat → Option Nat} {Γ : Env} {γ : Array Value} {B N : Nat} {F0 : Facts} {w0 : World} {ops : Array Oper} {Q : Exit → Go.Act → World → Prop} (hΓ : EnvOk P nm Γ) (ai : AI) :
    ∀ {g : Option (Nat × Bool)} {gs loc : List Nat} {l l' : List Oper} {s s' : St} {a : Go.Act} {w : World},
      chkAI P nm N ops ai g gs loc l = some l' → ev Γ ai s = some s' → Rel γ B F0 w0 N s a w → Met g s → (∀ t want, g = some (t, want) → t ∈ gs) →
      (∀ a' w', Rel γ B F0 w0 N s' a' w' → (∀ i, i ∉ ai.dsts → get s'.fr i = get s.fr i) → wpList P ops Q l' a' w') → wpList P ops Q l a w := by
  -- one operation that is wanted
  have one : ∀ {g : Option (Nat × Bool)} {gs : List Nat} {o : Oper} {A : Act} {v : AV} {l : List Oper} {s s1 : St} {a : Go.Act} {w : World}, guardOk ops g o = true → dstOk N gs o.dst = true → chkActG P nm o A = true → act Γ s A = some (v, s1) → Rel γ B F0 w0 N s a w → Met g s →
      (∀ a' w', Rel γ B F0 w0 N (s1.put o.dst v) a' w' → s1.fr = s.fr → wpList P ops Q l a' w') → wpList P ops Q (o :: l) a w := by
    intro g gs o A v l s s1 a w hg hd hc h hr hM hk
    have hr0 := hr
    obtain ⟨hG, F, ρ, hm, hf, he, hN, hdf⟩ := hr0
    have hw := wanted_of hg hM hf
    simp only [wpList, hw, if_true]
    left
    simp only [chkActG, Bool.and_eq_true] at hc
    have hdN : ∀ i, o.dst = some i → i < N := fun i hi => by rw [hi] at hd; simp [dstOk] at hd; exact hd.1
    obtain ⟨hfr, hdoes⟩ := act_sound hΓ hm ((FrG.pad (γ := γ) (by omega)).1 hf) hc.1.1 h
    exact does_pad (by omega) hc.1.2 hc.2 (fun i hi => by rw [hN]; exact hdN i hi) hdoes _ _ fun u w' hp => hk _ _ (Rel.put1 hG hfr he hN hdf hdN hp) hfr
  -- the guard's slot stays
  have met_ : ∀ {g : Option (Nat × Bool)} {gs : List Nat} {s s1 : St}, Met g s → (∀ t want, g = some (t, want) → t ∈ gs) → (∀ t ∈ gs, get s1.fr t = get s.fr t) → Met g s1 := by
    intro g gs s s1 hM hin hk
    cases g with
    | none => trivial
    | some p => obtain ⟨t, want⟩ := p; simp only [Met] at hM ⊢; rw [hk t (hin t want rfl)]; exact hM
  have put_get : ∀ {d : Option Nat} {v : AV} {s : St} {t : Nat} {gs : List Nat}, dstOk N gs d = true → t ∈ gs → get (s.put d v).fr t = get s.fr t := by
    intro d v s t gs hd ht
    cases d with
    | none => rfl
    | some d =>
      simp [dstOk] at hd
      simp only [St.put, get_cons]
      rw [if_neg (by rintro rfl; exact hd.2 ht)]
  induction ai with
  | done =>
    intro g gs loc l l' s s' a w hc h hr hM hgs hk
    simp only [chkAI, Option.some.injEq] at hc; subst hc
    simp only [ev, Option.some.injEq] at h; subst h
    exact hk a w hr fun _ _ => rfl
  | op d A r ih =>
    intro g gs loc l l' s s' a w hc h hr hM hgs hk
    simp only [chkAI] at hc
    split at hc
    · simp at hc
    · rename_i o l0
      split at hc
      · rename_i hcond
        simp only [Bool.and_eq_true, beq_iff_eq] at hcond
        obtain ⟨⟨⟨hg, hd⟩, hdo⟩, hact⟩ := hcond
        subst hd
        simp only [ev] at h
        split at h
        · rename_i v s1 h1
          refine one hg hdo hact h1 hr hM fun a1 w1 hr1 hfr => ?_
          refine ih hc h hr1 (met_ hM hgs fun t ht => by rw [put_get hdo ht, hfr]) hgs fun a2 w2 hr2 hg2 => hk a2 w2 hr2 fun i hi => ?_
          rw [hg2 i (by intro hm; apply hi; cases o.dst <;> simp [AI.dsts, hm])]
          cases hdd : o.dst with
          | none => simp only [St.put, hfr]
          | some d =>
            rw [hdd] at hi
            simp only [AI.dsts, List.mem_cons, not_or] at hi
            simp only [St.put, get_cons, hfr]
            rw [if_neg (Ne.symm hi.1)]
        · simp at h
      · simp at hc
  | sc d c want sub x r ihs ihr =>
    intro g gs loc l l' s s' a w hc h hr hM hgs hk
    simp only [chkAI] at hc
    split at hc
    · simp at hc
    · rename_i t
      split at hc
      · rename_i htc
        have htG : t < GB := by simp only [Bool.and_eq_true, decide_eq_true_eq] at htc; exact htc.2
        split at hc
        · rename_i o l0 hsub
          split at hc
          · rename_i hcond
            simp only [Bool.and_eq_true, beq_iff_eq] at hcond
            obtain ⟨⟨⟨hg, hd⟩, hdo⟩, hact⟩ := hcond
            have hsd := chk_dsts sub hsub
            simp only [ev] at h
            split at h
            · rename_i b hb
              split at h
              · rename_i hbw; subst hbw
                split at h
                · rename_i s1 h1
                  split at h
                  · rename_i v hv
                    refine ihs hsub h1 hr hb (fun t' w' he => by simp only [Option.some.injEq, Prod.mk.injEq] at he; rw [← he.1]; simp) fun a1 w1 hr1 hg1 => ?_
                    have hM1 : Met g s1 := met_ hM hgs fun t' ht' => hg1 t' fun hm => (hsd t' hm).1 (List.mem_cons_of_mem _ ht')
                    have hb1 : s1.opd (.t t) = some (.c (.bool b)) := by
                      have := hg1 t fun hm => (hsd t hm).1 (by simp)
                      simp only [St.opd] at hb ⊢; rw [this]; exact hb
                    have hpick : act Γ s1 (pickOf (.t t) b x) = some (v, s1) := by
                      cases b <;> simp [pickOf, act, hb1, hv]
                    refine one hg (by rw [hd]; exact hdo) hact hpick hr1 hM1 fun a2 w2 hr2 _ => ?_
                    rw [hd] at hr2
                    refine ihr hc h hr2 (met_ hM1 hgs fun t' ht' => put_get hdo ht') hgs fun a3 w3 hr3 hg3 => hk a3 w3 hr3 fun i hi => ?_
                    simp only [AI.dsts, List.mem_append, List.mem_cons, not_or] at hi
                    rw [hg3 i hi.2.2]
                    simp only [St.put, get_cons]
                    rw [if_neg (Ne.symm hi.2.1)]
                    exact hg1 i hi.1
                  · simp at h
                · simp at h
              · rename_i hbw
                obtain ⟨hG, F, ρ, hm, hf, he, hN, hdf⟩ := hr
                have hbv := DR.bool_ (hf t _ hb)
                rw [valG, if_pos htG] at hbv
                refine skip_sound sub (gs := gs) (loc := []) hsub (by rw [hbv]; simpa using hbw) (by simp) fun a1 hb1 => ?_
                have hr1 : Rel γ B F0 w0 N (s.drop sub) a1 w := Rel.drop ⟨hG, F, ρ, hm, hf, he, hN, hdf⟩ rfl (fun _ _ => rfl) hb1
                have hgd : ∀ t' ∈ t :: gs, get (s.drop sub).fr t' = get s.fr t' := fun t' ht' => by
                  simp only [St.drop, get_dels]; rw [if_neg fun hm => (hsd t' hm).1 ht']
                have hM1 : Met g (s.drop sub) := met_ hM hgs fun t' ht' => hgd t' (List.mem_cons_of_mem _ ht')
                have hbd : (s.drop sub).opd (.t t) = some (.c (.bool b)) := by simp only [St.opd] at hb ⊢; rw [hgd t (by simp)]; exact hb
                have hpick : act Γ (s.drop sub) (pickOf (.t t) want x) = some (.c (.bool b), s.drop sub) := by
                  cases want <;> cases b <;> simp at hbw <;> simp [pickOf, act, hbd] <;> rfl
                refine one hg (by rw [hd]; exact hdo) hact hpick hr1 hM1 fun a2 w2 hr2 _ => ?_
                rw [hd] at hr2
                refine ihr hc h hr2 (met_ hM1 hgs fun t' ht' => put_get hdo ht') hgs fun a3 w3 hr3 hg3 => hk a3 w3 hr3 fun i hi => ?_
                simp only [AI.dsts, List.mem_append, List.mem_cons, not_or] at hi
                rw [hg3 i hi.2.2]
                simp only [St.put, get_cons]
                rw [if_neg (Ne.symm hi.2.1)]
                simp only [St.drop, get_dels]; rw [if_neg hi.1]
            · simp at h
          · simp at hc
        · simp at hc
      · simp at hc
  | scs d c want sub x r ihs ihr =>
    intro g gs loc l l' s s' a w hc h hr hM hgs hk
    simp only [chkAI] at hc
    split at hc
    · simp at hc
    · rename_i t
      split at hc
      · rename_i hst
        simp only [Bool.and_eq_true, decide_eq_true_eq] at hst
        have htG : t < GB := hst.1.2
        split at hc
        · rename_i o l0 hsub
          split at hc
          · rename_i hcond
            simp only [Bool.and_eq_true, beq_iff_eq] at hcond
            obtain ⟨⟨⟨hg, hd⟩, hdo⟩, hact⟩ := hcond
            have hsd := chk_dsts sub hsub
            have hgd : ∀ t' ∈ t :: gs, get (s.drop sub).fr t' = get s.fr t' := fun t' ht' => by
              simp only [St.drop, get_dels]; rw [if_neg fun hm => (hsd t' hm).1 ht']
            have hM1 : Met g (s.drop sub) := met_ hM hgs fun t' ht' => hgd t' (List.mem_cons_of_mem _ ht')
            simp only [ev] at h
            split at h
            · rename_i b s1 hb h1
              split at h
              · rename_i y hy
                by_cases hbw : b = want
                · subst hbw
                  refine ihs hsub h1 hr hb (fun t' w' he => by simp only [Option.some.injEq, Prod.mk.injEq] at he; rw [← he.1]; simp) fun a1 w1 hr1 hg1 => ?_
                  have hM2 : Met g s1 := met_ hM hgs fun t' ht' => hg1 t' fun hm => (hsd t' hm).1 (List.mem_cons_of_mem _ ht')
                  have hb1 : s1.opd (.t t) = some (.c (.bool b)) := by
                    have := hg1 t fun hm => (hsd t hm).1 (by simp)
                    simp only [St.opd] at hb ⊢; rw [this]; exact hb
                  have hval : (if b then b && y else b || y) = y := by cases b <;> simp
                  rw [hval] at h
                  have hpick : act Γ s1 (pickOf (.t t) b x) = some (.c (.bool y), s1) := by
                    cases b <;> simp [pickOf, act, hb1, hy]
                  refine one hg (by rw [hd]; exact hdo) hact hpick hr1 hM2 fun a2 w2 hr2 _ => ?_
                  rw [hd] at hr2
                  have hr3 : Rel γ B F0 w0 N ((s.drop sub).put (some d) (.c (.bool y))) a2 w2 := by
                    obtain ⟨hG, F, ρ, hm, hf, he, hN, hdf⟩ := hr2
                    have hob := ev_still sub hst.2 h1
                    refine ⟨hG, F, ρ, by simpa [St.put, St.drop, hob] using hm, fun i v hi => ?_, he, hN, hdf⟩
                    simp only [St.put, get_cons] at hi
                    have : get (s1.put (some d) (.c (.bool y))).fr i = some v := by
                      simp only [St.put, get_cons]
                      by_cases hdi : d = i
                      · rw [if_pos hdi] at hi ⊢; exact hi
                      · rw [if_neg hdi] at hi ⊢
                        simp only [St.drop, get_dels] at hi
                        split at hi
                        · simp at hi
                        · rename_i hid; rw [hg1 i hid]; exact hi
                    have := hf i v this
                    simpa [St.put, St.drop, hob] using this
                  refine ihr hc h hr3 (met_ hM1 hgs fun t' ht' => put_get hdo ht') hgs fun a3 w3 hr3 hg3 => hk a3 w3 hr3 fun i hi => ?_
                  simp only [AI.dsts, List.mem_append, List.mem_cons, not_or] at hi
                  rw [hg3 i hi.2.2]
                  simp only [St.put, get_cons]
                  rw [if_neg (Ne.symm hi.2.1)]
                  simp only [St.drop, get_dels]; rw [if_neg hi.1]
                · obtain ⟨hG, F, ρ, hm, hf, he, hN, hdf⟩ := hr
                  have hbv := DR.bool_ (hf t _ hb)
                  rw [valG, if_pos htG] at hbv
                  refine skip_sound sub (gs := gs) (loc := []) hsub (by rw [hbv]; simpa using hbw) (by simp) fun a1 hb1 => ?_
                  have hr1 : Rel γ B F0 w0 N (s.drop sub) a1 w := Rel.drop ⟨hG, F, ρ, hm, hf, he, hN, hdf⟩ rfl (fun _ _ => rfl) hb1
                  have hbd : (s.drop sub).opd (.t t) = some (.c (.bool b)) := by simp only [St.opd] at hb ⊢; rw [hgd t (by simp)]; exact hb
                  have hval : (if want then b && y else b || y) = b := by cases want <;> cases b <;> simp at hbw ⊢
                  rw [hval] at h
                  have hpick : act Γ (s.drop sub) (pickOf (.t t) want x) = some (.c (.bool b), s.drop sub) := by
                    cases want <;> cases b <;> simp at hbw <;> simp [pickOf, act, hbd] <;> rfl
                  refine one hg (by rw [hd]; exact hdo) hact hpick hr1 hM1 fun a2 w2 hr2 _ => ?_
                  rw [hd] at hr2
                  refine ihr hc h hr2 (met_ hM1 hgs fun t' ht' => put_get hdo ht') hgs fun a3 w3 hr3 hg3 => hk a3 w3 hr3 fun i hi => ?_
                  simp only [AI.dsts, List.mem_append, List.mem_cons, not_or] at hi
                  rw [hg3 i hi.2.2]
                  simp only [St.put, get_cons]
                  rw [if_neg (Ne.symm hi.2.1)]
                  simp only [St.drop, get_dels]; rw [if_neg hi.1]
              · simp at h
            · simp at h
          · simp at hc
        · simp at hc
      · simp at hc
end
end Go.Am
