/- The abstract machine: == and != by their types. -/
import Derived.Test.YtnaahdcahghldaaGreatDoorQs2
import Derived.Laws.StructEq
import Derived.LaidEql
import Derived.WideKeyRuns
import Derived.ChangeKeysEq
import Derived.Laws.BytesString
import Derived.Lib.ConvBytes
import Derived.Laws.BytesArg
set_option linter.all false
namespace Go.Qa
open Go Go.RowKit

def nilP : AV → Bool | .pl (.pointer none) => true | _ => false
def adP : AV → Bool | .ref .. | .eref .. | .lref .. => true | _ => false
def nilS : AV → Bool | .pl (.slice none _ _) => true | _ => false
def adS : AV → Bool | .row .. | .arr .. => true | _ => false
def nilM : AV → Bool | .pl (.map none) => true | _ => false
def adM : AV → Bool | .map .. => true | _ => false
def nilF : AV → Bool | .pl .nilFunc => true | _ => false
def adF : AV → Bool | .fn .. => true | _ => false
def nilI : AV → Bool | .pl .nilIface => true | _ => false
def adI : AV → Bool | .iface .. => true | _ => false
def nilEq (nl ad : AV → Bool) (x y : AV) : Option Bool :=
  if nl x then (if nl y then some true else if ad y then some false else none) else if nl y then (if ad x then some false else none) else none
/-- Pointers: one against nil, or the same one. -/
def ptE (x y : AV) : Option Bool := match x, y with
  | .ref b o, .ref c p => if b = c ∧ o = p then some true else none
  | x, y => nilEq nilP adP x y
theorem ptE_cases {x y : AV} {r : Bool} (h : ptE x y = some r) : (∃ b o, x = .ref b o ∧ y = .ref b o ∧ r = true) ∨ nilEq nilP adP x y = some r := by
  unfold ptE at h
  split at h
  · split at h
    · rename_i q
      obtain ⟨rfl, rfl⟩ := q
      cases h
      exact .inl ⟨_, _, rfl, rfl, rfl⟩
    · cases h
  · exact .inr h
def scalEq : SK → AV → AV → Option Bool
  | .i, .int k a, .int k' b => if k = k' then some (a == b) else none
  | .b, .bool a, .bool b => some (a == b)
  | .s, .str a, .str b => some (a == b)
  | _, _, _ => none
def eqCells : List SK → List AV → List AV → Option Bool
  | [], [], [] => some true
  | k :: ks, c :: cs, d :: ds => match scalEq k c d with
    | some true => eqCells ks cs ds
    | some false => some false
    | none => none
  | _, _, _ => none
def eqBools : AV → AV → Option Bool
  | .bool a, .bool b => some (a == b)
  | _, _ => none
def eqAggs (ks : List SK) : AV → AV → Option Bool
  | .agg cs, .agg ds => if cs.length = ks.length ∧ ds.length = ks.length then eqCells ks cs ds else none
  | _, _ => none
def EK.eq (k : EK) (x y : AV) : Option Bool :=
  match k with
  | .bool => eqBools x y
  | .ptr => ptE x y
  | .sl => nilEq nilS adS x y
  | .mp => nilEq nilM adM x y
  | .fn => nilEq nilF adF x y
  | .ifc => nilEq nilI adI x y
  | .st ks => eqAggs ks x y
/-- Which kind of comparison a type has. -/
def skOf : TypeDesc → Option SK
  | .bool => some .b
  | .string => some .s
  | .int _ => some .i
  | _ => none
def flatFields (P : Program) : Nat → List Field → Option (List SK)
  | _, [] => some []
  | o, f :: fs => if f.name = "_" ∨ f.offset ≠ o then none else (P.underlying f.type).bind fun d => (skOf d).bind fun k => (flatFields P (o + 1) fs).map fun ks => k :: ks
def ekOf (P : Program) (t : TypeId) (c : Bool) : Option EK :=
  match P.underlying t with
  | some .bool => some .bool
  | some (.pointer e) => if (P.info? e).isSome then some .ptr else none
  | some (.slice _) => some .sl
  | some (.map _ _) => some .mp
  | some (.func _ _ _) => some .fn
  | some (.interface _) => if c then some .ifc else none
  | some (.struct fs) => if P.stoodInHeld t || P.eqGuardType P.depth t then none else (flatFields P 0 fs.toList).map .st
  | _ => none

section
variable {W0 : World} {G0 : Ghost} {w0 : World} {N : Nat} {G G' : Ghost} {L : Nat → Option Nat} {st : AS} {H H' : AHeap} {ca : Act} {w w' : World} {P : Program}

def cst : Operand → Bool
  | .const _ => true
  | _ => false
theorem scal_run {d : Nat} {t : TypeId} {de : TypeDesc} {k : SK} {x y : AV} {u v : Value} {b : Bool} (ht : P.underlying t = some de) (hk : skOf de = some k) (hx : VRel G x u) (hy : VRel G y v) (h : scalEq k x y = some b) :
    (Op.equalIn (d + 1) t u v).run P w = .ok b w := by
  cases de <;> simp [skOf] at hk <;> subst hk <;> cases hx <;> cases hy <;> simp [scalEq] at h
  · subst h
    exact run_equalIn_bool w d t _ _ ht
  · obtain ⟨rfl, rfl⟩ := h
    exact run_equalIn_int w d t _ _ _ _ ht
  · subst h
    rename_i s _ s' _
    have := run_equalIn_string (P := P) w d t (bs s) (bs s') ht
    rw [bs_toList, bs_toList] at this
    exact this

theorem cell_part {t : TypeId} {de : TypeDesc} {k : SK} (ht : P.underlying t = some de) (hk : skOf de = some k) (cs : List Value) (o : Nat) (h : o < cs.length) : (part t cs.toArray o).run P w = .ok (cs.getD o undef) w := by
  have hagg : (isAgg t).run P w = .ok false w := by
    unfold isAgg
    rw [Sem.run_bind, run_underlying ht w]
    cases de <;> simp_all [skOf]
  have e : cs.toArray[o]? = some (cs.getD o undef) := by
    rw [List.getD_eq_getElem?_getD]; simp [h]
  simp [part, hagg, e]

theorem fields_run (d : Nat) (vs us : List Value) : ∀ (fs : List Field) (o : Nat) (ks : List SK) {cs ds : List AV} {b : Bool}, flatFields P o fs = some ks → o + fs.length ≤ vs.length → o + fs.length ≤ us.length →
    (∀ j, j < cs.length → VRel G (cs.getD j .any) (vs.getD (o + j) undef)) → (∀ j, j < ds.length → VRel G (ds.getD j .any) (us.getD (o + j) undef)) → eqCells ks cs ds = some b →
    (Op.eqFields (d + 1) vs.toArray us.toArray fs).run P w = .ok b w
  | [], o, ks, cs, ds, b, hf, h1, h2, hx, hy, h => by
    simp only [flatFields, Option.some.injEq] at hf
    subst hf
    cases cs <;> cases ds <;> simp [eqCells] at h
    subst h
    rfl
  | f :: fs, o, ks, cs, ds, b, hf, h1, h2, hx, hy, h => by
    simp only [flatFields] at hf
    split at hf
    · cases hf
    · rename_i hn
      simp only [Option.bind_eq_some_iff, Option.map_eq_some_iff] at hf
      obtain ⟨de, hde, k, hk, ks', hks, rfl⟩ := hf
      have hname : f.name ≠ "_" := fun q => hn (.inl q)
      have hoff : f.offset = o := Classical.byContradiction fun q => hn (.inr q)
      simp only [List.length_cons] at h1 h2
      rcases cs with _ | ⟨c, cs⟩
      · simp [eqCells] at h
      rcases ds with _ | ⟨e, ds⟩
      · simp [eqCells] at h
      simp only [eqCells] at h
      have hc : VRel G c (vs.getD o undef) := by simpa using hx 0 (by simp)
      have he : VRel G e (us.getD o undef) := by simpa using hy 0 (by simp)
      simp only [Op.eqFields, if_pos hname, Sem.run_bind, hoff, cell_part hde hk vs o (by omega), cell_part hde hk us o (by omega), Result.andThen_ok]
      split at h
      · rename_i hs
        rw [scal_run hde hk hc he hs]
        simp only [Result.andThen_ok, Bool.not_true, Bool.false_eq_true, if_false]
        refine fields_run d vs us fs (o + 1) ks' hks (by omega) (by omega) (fun j hj => ?_) (fun j hj => ?_) h
        · have := hx (j + 1) (by simpa using hj)
          simpa [Nat.add_assoc, Nat.add_comm 1 j] using this
        · have := hy (j + 1) (by simpa using hj)
          simpa [Nat.add_assoc, Nat.add_comm 1 j] using this
      · rename_i hs
        cases h
        rw [scal_run hde hk hc he hs]
        rfl
      · cases h

theorem eqIn_nn (d : Nat) {t e : TypeId} (ht : P.underlying t = some (.pointer e)) (w : World) : (Op.equalIn (d + 1) t (.pointer none) (.pointer none)).run P w = .ok true w := by
  unfold Op.equalIn; rw [Sem.run_bind, run_underlying ht]; rfl
theorem eqIn_aa (d : Nat) {t e : TypeId} {i : TypeInfo} (ht : P.underlying t = some (.pointer e)) (hi : P.info? e = some i) (a : Addr) (w : World) : (Op.equalIn (d + 1) t (.pointer (some a)) (.pointer (some a))).run P w = .ok true w := by
  simp only [Op.equalIn, Sem.run_bind, run_underlying ht, Result.andThen_ok, run_sizeOf w hi]
  split
  · exact run_sameAddr_same w a
  · rw [if_pos (by simp)]; rfl
theorem eqIn_na (d : Nat) {t e : TypeId} (ht : P.underlying t = some (.pointer e)) (a : Addr) (w : World) : (Op.equalIn (d + 1) t (.pointer none) (.pointer (some a))).run P w = .ok false w := by
  unfold Op.equalIn; rw [Sem.run_bind, run_underlying ht]; rfl
theorem eqIn_an (d : Nat) {t e : TypeId} (ht : P.underlying t = some (.pointer e)) (a : Addr) (w : World) : (Op.equalIn (d + 1) t (.pointer (some a)) (.pointer none)).run P w = .ok false w := by
  unfold Op.equalIn; rw [Sem.run_bind, run_underlying ht]; rfl
theorem eqIn_sn (d : Nat) {t e : TypeId} (ht : P.underlying t = some (.slice e)) (n c : Nat) (b : Option Addr) (m k : Nat) (w : World) : (Op.equalIn (d + 1) t (.slice none n c) (.slice b m k)).run P w = .ok b.isNone w := by
  unfold Op.equalIn; rw [Sem.run_bind, run_underlying ht]; rfl
theorem eqIn_sa (d : Nat) {t e : TypeId} (ht : P.underlying t = some (.slice e)) (n c : Nat) (b : Addr) (m k : Nat) (w : World) : (Op.equalIn (d + 1) t (.slice (some b) m k) (.slice none n c)).run P w = .ok false w := by
  unfold Op.equalIn; rw [Sem.run_bind, run_underlying ht]; rfl
theorem eqIn_mn (d : Nat) {t e f : TypeId} (ht : P.underlying t = some (.map e f)) (b : Option Nat) (w : World) : (Op.equalIn (d + 1) t (.map none) (.map b)).run P w = .ok b.isNone w := by
  unfold Op.equalIn; rw [Sem.run_bind, run_underlying ht]; rfl
theorem eqIn_ma (d : Nat) {t e f : TypeId} (ht : P.underlying t = some (.map e f)) (b : Nat) (w : World) : (Op.equalIn (d + 1) t (.map (some b)) (.map none)).run P w = .ok false w := by
  unfold Op.equalIn; rw [Sem.run_bind, run_underlying ht]; rfl
theorem eqIn_fn (d : Nat) {t : TypeId} {e f : Array TypeId} {g : Bool} (ht : P.underlying t = some (.func e f g)) (w : World) : (Op.equalIn (d + 1) t .nilFunc .nilFunc).run P w = .ok true w := by
  unfold Op.equalIn; rw [Sem.run_bind, run_underlying ht]; rfl
theorem eqIn_fa (d : Nat) {t : TypeId} {e f : Array TypeId} {g : Bool} (ht : P.underlying t = some (.func e f g)) (a : Fn) (b c : Array Value) (w : World) : (Op.equalIn (d + 1) t .nilFunc (.func a b c)).run P w = .ok false w := by
  unfold Op.equalIn; rw [Sem.run_bind, run_underlying ht]; rfl
theorem eqIn_fb (d : Nat) {t : TypeId} {e f : Array TypeId} {g : Bool} (ht : P.underlying t = some (.func e f g)) (a : Fn) (b c : Array Value) (w : World) : (Op.equalIn (d + 1) t (.func a b c) .nilFunc).run P w = .ok false w := by
  unfold Op.equalIn; rw [Sem.run_bind, run_underlying ht]; rfl
theorem eqIn_in (d : Nat) {t : TypeId} {e : Array (String × TypeId)} (ht : P.underlying t = some (.interface e)) (w : World) : (Op.equalIn (d + 1) t .nilIface .nilIface).run P w = .ok true w := by
  unfold Op.equalIn; rw [Sem.run_bind, run_underlying ht]; rfl
theorem eqIn_ia (d : Nat) {t : TypeId} {e : Array (String × TypeId)} (ht : P.underlying t = some (.interface e)) (a : TypeId) (b : Value) (w : World) : (Op.equalIn (d + 1) t .nilIface (.iface a b)).run P w = .ok false w := by
  unfold Op.equalIn; rw [Sem.run_bind, run_underlying ht]; rfl
theorem eqIn_ib (d : Nat) {t : TypeId} {e : Array (String × TypeId)} (ht : P.underlying t = some (.interface e)) (a : TypeId) (b : Value) (w : World) : (Op.equalIn (d + 1) t (.iface a b) .nilIface).run P w = .ok false w := by
  unfold Op.equalIn; rw [Sem.run_bind, run_underlying ht]; rfl

/-- What a comparison comes to. -/
theorem eq_run (d : Nat) {t : TypeId} {c : Bool} {k : EK} {x y : AV} {u v : Value} {b : Bool} (hk : ekOf P t c = some k) (hx : SRel G L x u) (hy : SRel G L y v) (hb : k.eq x y = some b) :
    (Op.equalIn (d + 2) t u v).run P w = .ok b w := by
  unfold ekOf at hk
  split at hk
  · rename_i ht
    cases hk
    simp only [EK.eq] at hb
    cases x <;> cases y <;> simp [eqBools] at hb
    subst hb
    rw [hx.bool, hy.bool]
    exact run_equalIn_bool w (d + 1) t _ _ ht
  · rename_i e ht
    split at hk
    rotate_left
    · cases hk
    rename_i hinf
    obtain ⟨inf, hinf⟩ := Option.isSome_iff_exists.1 hinf
    cases hk
    simp only [EK.eq] at hb
    rcases ptE_cases hb with ⟨bb, oo, rfl, rfl, rfl⟩ | hb
    · rcases hx with ⟨_, _, _, z, _⟩ | hx
      · cases z
      · rcases hy with ⟨_, _, _, z, _⟩ | hy
        · cases z
        · cases hx with
          | ref _ _ B h1 =>
            cases hy with
            | ref _ _ B2 h2 =>
              rw [h1] at h2
              cases h2
              exact eqIn_aa _ ht hinf _ w
    simp only [nilEq] at hb
    have nx : nilP x = true → u = .pointer none := fun q => by
      cases x <;> simp [nilP] at q
      split at q <;> simp_all
      exact hx.pl
    have ny : nilP y = true → v = .pointer none := fun q => by
      cases y <;> simp [nilP] at q
      split at q <;> simp_all
      exact hy.pl
    have ax : adP x = true → ∃ a, u = .pointer (some a) := fun q => by
      rcases hx with ⟨_, _, _, rfl, _, rfl⟩ | hx
      · exact ⟨_, rfl⟩
      · cases hx <;> simp [adP] at q <;> exact ⟨_, rfl⟩
    have ay : adP y = true → ∃ a, v = .pointer (some a) := fun q => by
      rcases hy with ⟨_, _, _, rfl, _, rfl⟩ | hy
      · exact ⟨_, rfl⟩
      · cases hy <;> simp [adP] at q <;> exact ⟨_, rfl⟩
    split at hb
    · rename_i q
      rw [nx q]
      split at hb
      · rename_i q2; cases hb; rw [ny q2]; first | exact eqIn_nn _ ht w | exact eqIn_na _ ht _ w | exact eqIn_an _ ht _ w | exact eqIn_sn _ ht _ _ _ _ _ w | exact eqIn_sa _ ht _ _ _ _ _ w | exact eqIn_mn _ ht _ w | exact eqIn_ma _ ht _ w | exact eqIn_fn _ ht w | exact eqIn_fa _ ht _ _ _ w | exact eqIn_fb _ ht _ _ _ w | exact eqIn_in _ ht w | exact eqIn_ia _ ht _ _ w | exact eqIn_ib _ ht _ _ w
      · split at hb
        · rename_i q2; cases hb; obtain ⟨a, rfl⟩ := ay q2; first | exact eqIn_nn _ ht w | exact eqIn_na _ ht _ w | exact eqIn_an _ ht _ w | exact eqIn_sn _ ht _ _ _ _ _ w | exact eqIn_sa _ ht _ _ _ _ _ w | exact eqIn_mn _ ht _ w | exact eqIn_ma _ ht _ w | exact eqIn_fn _ ht w | exact eqIn_fa _ ht _ _ _ w | exact eqIn_fb _ ht _ _ _ w | exact eqIn_in _ ht w | exact eqIn_ia _ ht _ _ w | exact eqIn_ib _ ht _ _ w
        · cases hb
    · split at hb
      · rename_i q2
        rw [ny q2]
        split at hb
        · rename_i q3; cases hb; obtain ⟨a, rfl⟩ := ax q3; first | exact eqIn_nn _ ht w | exact eqIn_na _ ht _ w | exact eqIn_an _ ht _ w | exact eqIn_sn _ ht _ _ _ _ _ w | exact eqIn_sa _ ht _ _ _ _ _ w | exact eqIn_mn _ ht _ w | exact eqIn_ma _ ht _ w | exact eqIn_fn _ ht w | exact eqIn_fa _ ht _ _ _ w | exact eqIn_fb _ ht _ _ _ w | exact eqIn_in _ ht w | exact eqIn_ia _ ht _ _ w | exact eqIn_ib _ ht _ _ w
        · cases hb
      · cases hb
  · rename_i e ht
    cases hk
    simp only [EK.eq, nilEq] at hb
    have nx : nilS x = true → ∃ n c, u = .slice none n c := fun q => by
      cases x <;> simp [nilS] at q
      split at q <;> simp_all
      exact ⟨_, _, hx.pl⟩
    have ny : nilS y = true → ∃ n c, v = .slice none n c := fun q => by
      cases y <;> simp [nilS] at q
      split at q <;> simp_all
      exact ⟨_, _, hy.pl⟩
    have ax : adS x = true → ∃ a n c, u = .slice (some a) n c := fun q => by
      rcases hx with ⟨_, _, _, rfl, _, rfl⟩ | hx
      · cases q
      · cases hx <;> simp [adS] at q <;> exact ⟨_, _, _, rfl⟩
    have ay : adS y = true → ∃ a n c, v = .slice (some a) n c := fun q => by
      rcases hy with ⟨_, _, _, rfl, _, rfl⟩ | hy
      · cases q
      · cases hy <;> simp [adS] at q <;> exact ⟨_, _, _, rfl⟩
    split at hb
    · rename_i q
      obtain ⟨_, _, rfl⟩ := nx q
      split at hb
      · rename_i q2; cases hb; obtain ⟨_, _, rfl⟩ := ny q2; first | exact eqIn_nn _ ht w | exact eqIn_na _ ht _ w | exact eqIn_an _ ht _ w | exact eqIn_sn _ ht _ _ _ _ _ w | exact eqIn_sa _ ht _ _ _ _ _ w | exact eqIn_mn _ ht _ w | exact eqIn_ma _ ht _ w | exact eqIn_fn _ ht w | exact eqIn_fa _ ht _ _ _ w | exact eqIn_fb _ ht _ _ _ w | exact eqIn_in _ ht w | exact eqIn_ia _ ht _ _ w | exact eqIn_ib _ ht _ _ w
      · split at hb
        · rename_i q2; cases hb; obtain ⟨a, _, _, rfl⟩ := ay q2; first | exact eqIn_nn _ ht w | exact eqIn_na _ ht _ w | exact eqIn_an _ ht _ w | exact eqIn_sn _ ht _ _ _ _ _ w | exact eqIn_sa _ ht _ _ _ _ _ w | exact eqIn_mn _ ht _ w | exact eqIn_ma _ ht _ w | exact eqIn_fn _ ht w | exact eqIn_fa _ ht _ _ _ w | exact eqIn_fb _ ht _ _ _ w | exact eqIn_in _ ht w | exact eqIn_ia _ ht _ _ w | exact eqIn_ib _ ht _ _ w
        · cases hb
    · split at hb
      · rename_i q2
        obtain ⟨_, _, rfl⟩ := ny q2
        split at hb
        · rename_i q3; cases hb; obtain ⟨a, _, _, rfl⟩ := ax q3; first | exact eqIn_nn _ ht w | exact eqIn_na _ ht _ w | exact eqIn_an _ ht _ w | exact eqIn_sn _ ht _ _ _ _ _ w | exact eqIn_sa _ ht _ _ _ _ _ w | exact eqIn_mn _ ht _ w | exact eqIn_ma _ ht _ w | exact eqIn_fn _ ht w | exact eqIn_fa _ ht _ _ _ w | exact eqIn_fb _ ht _ _ _ w | exact eqIn_in _ ht w | exact eqIn_ia _ ht _ _ w | exact eqIn_ib _ ht _ _ w
        · cases hb
      · cases hb
  · rename_i e1 e2 ht
    cases hk
    simp only [EK.eq, nilEq] at hb
    have nx : nilM x = true → u = .map none := fun q => by
      cases x <;> simp [nilM] at q
      split at q <;> simp_all
      exact hx.pl
    have ny : nilM y = true → v = .map none := fun q => by
      cases y <;> simp [nilM] at q
      split at q <;> simp_all
      exact hy.pl
    have ax : adM x = true → ∃ a, u = .map (some a) := fun q => by
      rcases hx with ⟨_, _, _, rfl, _, rfl⟩ | hx
      · cases q
      · cases hx <;> simp [adM] at q <;> exact ⟨_, rfl⟩
    have ay : adM y = true → ∃ a, v = .map (some a) := fun q => by
      rcases hy with ⟨_, _, _, rfl, _, rfl⟩ | hy
      · cases q
      · cases hy <;> simp [adM] at q <;> exact ⟨_, rfl⟩
    split at hb
    · rename_i q
      rw [nx q]
      split at hb
      · rename_i q2; cases hb; rw [ny q2]; first | exact eqIn_nn _ ht w | exact eqIn_na _ ht _ w | exact eqIn_an _ ht _ w | exact eqIn_sn _ ht _ _ _ _ _ w | exact eqIn_sa _ ht _ _ _ _ _ w | exact eqIn_mn _ ht _ w | exact eqIn_ma _ ht _ w | exact eqIn_fn _ ht w | exact eqIn_fa _ ht _ _ _ w | exact eqIn_fb _ ht _ _ _ w | exact eqIn_in _ ht w | exact eqIn_ia _ ht _ _ w | exact eqIn_ib _ ht _ _ w
      · split at hb
        · rename_i q2; cases hb; obtain ⟨a, rfl⟩ := ay q2; first | exact eqIn_nn _ ht w | exact eqIn_na _ ht _ w | exact eqIn_an _ ht _ w | exact eqIn_sn _ ht _ _ _ _ _ w | exact eqIn_sa _ ht _ _ _ _ _ w | exact eqIn_mn _ ht _ w | exact eqIn_ma _ ht _ w | exact eqIn_fn _ ht w | exact eqIn_fa _ ht _ _ _ w | exact eqIn_fb _ ht _ _ _ w | exact eqIn_in _ ht w | exact eqIn_ia _ ht _ _ w | exact eqIn_ib _ ht _ _ w
        · cases hb
    · split at hb
      · rename_i q2
        rw [ny q2]
        split at hb
        · rename_i q3; cases hb; obtain ⟨a, rfl⟩ := ax q3; first | exact eqIn_nn _ ht w | exact eqIn_na _ ht _ w | exact eqIn_an _ ht _ w | exact eqIn_sn _ ht _ _ _ _ _ w | exact eqIn_sa _ ht _ _ _ _ _ w | exact eqIn_mn _ ht _ w | exact eqIn_ma _ ht _ w | exact eqIn_fn _ ht w | exact eqIn_fa _ ht _ _ _ w | exact eqIn_fb _ ht _ _ _ w | exact eqIn_in _ ht w | exact eqIn_ia _ ht _ _ w | exact eqIn_ib _ ht _ _ w
        · cases hb
      · cases hb
  · rename_i e1 e2 e3 ht
    cases hk
    simp only [EK.eq, nilEq] at hb
    have nx : nilF x = true → u = .nilFunc := fun q => by
      cases x <;> simp [nilF] at q
      split at q <;> simp_all
      exact hx.pl
    have ny : nilF y = true → v = .nilFunc := fun q => by
      cases y <;> simp [nilF] at q
      split at q <;> simp_all
      exact hy.pl
    have ax : adF x = true → ∃ a b c, u = .func a b c := fun q => by
      rcases hx with ⟨_, _, _, rfl, _, rfl⟩ | hx
      · cases q
      · cases hx <;> simp [adF] at q <;> exact ⟨_, _, _, rfl⟩
    have ay : adF y = true → ∃ a b c, v = .func a b c := fun q => by
      rcases hy with ⟨_, _, _, rfl, _, rfl⟩ | hy
      · cases q
      · cases hy <;> simp [adF] at q <;> exact ⟨_, _, _, rfl⟩
    split at hb
    · rename_i q
      rw [nx q]
      split at hb
      · rename_i q2; cases hb; rw [ny q2]; first | exact eqIn_nn _ ht w | exact eqIn_na _ ht _ w | exact eqIn_an _ ht _ w | exact eqIn_sn _ ht _ _ _ _ _ w | exact eqIn_sa _ ht _ _ _ _ _ w | exact eqIn_mn _ ht _ w | exact eqIn_ma _ ht _ w | exact eqIn_fn _ ht w | exact eqIn_fa _ ht _ _ _ w | exact eqIn_fb _ ht _ _ _ w | exact eqIn_in _ ht w | exact eqIn_ia _ ht _ _ w | exact eqIn_ib _ ht _ _ w
      · split at hb
        · rename_i q2; cases hb; obtain ⟨a, _, _, rfl⟩ := ay q2; first | exact eqIn_nn _ ht w | exact eqIn_na _ ht _ w | exact eqIn_an _ ht _ w | exact eqIn_sn _ ht _ _ _ _ _ w | exact eqIn_sa _ ht _ _ _ _ _ w | exact eqIn_mn _ ht _ w | exact eqIn_ma _ ht _ w | exact eqIn_fn _ ht w | exact eqIn_fa _ ht _ _ _ w | exact eqIn_fb _ ht _ _ _ w | exact eqIn_in _ ht w | exact eqIn_ia _ ht _ _ w | exact eqIn_ib _ ht _ _ w
        · cases hb
    · split at hb
      · rename_i q2
        rw [ny q2]
        split at hb
        · rename_i q3; cases hb; obtain ⟨a, _, _, rfl⟩ := ax q3; first | exact eqIn_nn _ ht w | exact eqIn_na _ ht _ w | exact eqIn_an _ ht _ w | exact eqIn_sn _ ht _ _ _ _ _ w | exact eqIn_sa _ ht _ _ _ _ _ w | exact eqIn_mn _ ht _ w | exact eqIn_ma _ ht _ w | exact eqIn_fn _ ht w | exact eqIn_fa _ ht _ _ _ w | exact eqIn_fb _ ht _ _ _ w | exact eqIn_in _ ht w | exact eqIn_ia _ ht _ _ w | exact eqIn_ib _ ht _ _ w
        · cases hb
      · cases hb
  · rename_i e1 ht
    split at hk
    · cases hk
      simp only [EK.eq, nilEq] at hb
      have nx : nilI x = true → u = .nilIface := fun q => by
        cases x <;> simp [nilI] at q
        split at q <;> simp_all
        exact hx.pl
      have ny : nilI y = true → v = .nilIface := fun q => by
        cases y <;> simp [nilI] at q
        split at q <;> simp_all
        exact hy.pl
      have ax : adI x = true → ∃ a b, u = .iface a b := fun q => by
        rcases hx with ⟨_, _, _, rfl, _, rfl⟩ | hx
        · cases q
        · cases hx <;> simp [adI] at q <;> exact ⟨_, _, rfl⟩
      have ay : adI y = true → ∃ a b, v = .iface a b := fun q => by
        rcases hy with ⟨_, _, _, rfl, _, rfl⟩ | hy
        · cases q
        · cases hy <;> simp [adI] at q <;> exact ⟨_, _, rfl⟩
      split at hb
      · rename_i q
        rw [nx q]
        split at hb
        · rename_i q2; cases hb; rw [ny q2]; first | exact eqIn_nn _ ht w | exact eqIn_na _ ht _ w | exact eqIn_an _ ht _ w | exact eqIn_sn _ ht _ _ _ _ _ w | exact eqIn_sa _ ht _ _ _ _ _ w | exact eqIn_mn _ ht _ w | exact eqIn_ma _ ht _ w | exact eqIn_fn _ ht w | exact eqIn_fa _ ht _ _ _ w | exact eqIn_fb _ ht _ _ _ w | exact eqIn_in _ ht w | exact eqIn_ia _ ht _ _ w | exact eqIn_ib _ ht _ _ w
        · split at hb
          · rename_i q2; cases hb; obtain ⟨a, _, rfl⟩ := ay q2; first | exact eqIn_nn _ ht w | exact eqIn_na _ ht _ w | exact eqIn_an _ ht _ w | exact eqIn_sn _ ht _ _ _ _ _ w | exact eqIn_sa _ ht _ _ _ _ _ w | exact eqIn_mn _ ht _ w | exact eqIn_ma _ ht _ w | exact eqIn_fn _ ht w | exact eqIn_fa _ ht _ _ _ w | exact eqIn_fb _ ht _ _ _ w | exact eqIn_in _ ht w | exact eqIn_ia _ ht _ _ w | exact eqIn_ib _ ht _ _ w
          · cases hb
      · split at hb
        · rename_i q2
          rw [ny q2]
          split at hb
          · rename_i q3; cases hb; obtain ⟨a, _, rfl⟩ := ax q3; first | exact eqIn_nn _ ht w | exact eqIn_na _ ht _ w | exact eqIn_an _ ht _ w | exact eqIn_sn _ ht _ _ _ _ _ w | exact eqIn_sa _ ht _ _ _ _ _ w | exact eqIn_mn _ ht _ w | exact eqIn_ma _ ht _ w | exact eqIn_fn _ ht w | exact eqIn_fa _ ht _ _ _ w | exact eqIn_fb _ ht _ _ _ w | exact eqIn_in _ ht w | exact eqIn_ia _ ht _ _ w | exact eqIn_ib _ ht _ _ w
          · cases hb
        · cases hb
    · cases hk
  · rename_i fs ht
    split at hk
    · cases hk
    · rename_i hn
      simp only [Bool.or_eq_true, not_or, Bool.not_eq_true] at hn
      simp only [Option.map_eq_some_iff] at hk
      obtain ⟨ks, hks, rfl⟩ := hk
      simp only [EK.eq] at hb
      cases x <;> cases y <;> simp [eqAggs] at hb
      rename_i cs ds
      obtain ⟨⟨l1, l2⟩, hb⟩ := hb
      have h1 := hx.rel (by simp)
      have h2 := hy.rel (by simp)
      cases h1 with
      | agg _ vs hl hv =>
        cases h2 with
        | agg _ us hl' hu =>
          have hlen : ∀ (fs : List Field) (o : Nat) (ks : List SK), flatFields P o fs = some ks → ks.length = fs.length := by
            intro fs
            induction fs with
            | nil => intro o ks h; simp [flatFields] at h; subst h; rfl
            | cons f fs ih =>
              intro o ks h
              simp only [flatFields] at h
              split at h
              · cases h
              · simp only [Option.bind_eq_some_iff, Option.map_eq_some_iff] at h
                obtain ⟨_, _, _, _, ks', h, rfl⟩ := h
                simp [ih _ _ h]
          have hfl := hlen _ _ _ hks
          have hff : P.fieldsOf t = fs := by simp [Program.fieldsOf, ht]
          rw [run_equalIn_struct w (d + 1) t vs.toArray us.toArray (by rw [hff]; exact ht) hn.1, hff]
          exact fields_run d vs us fs.toList 0 ks hks (by omega) (by omega) (by simpa using hv) (by simpa using hu) hb
  · cases hk

theorem run_equal (t : TypeId) (u v : Value) (w : World) : (Op.equal t u v).run P w = (Op.equalIn (9998 + 2) t u v).run P w := rfl

theorem guard_bool (op : BinOp) (t : TypeId) (x y : Operand) (a b : Bool) (w : World) : (eqGuard op t x y (.bool a) (.bool b)).run P w = .ok () w := by cases op <;> rfl
theorem guard_ptr (op : BinOp) (t : TypeId) (x y : Operand) (a b : Option Addr) (w : World) : (eqGuard op t x y (.pointer a) (.pointer b)).run P w = .ok () w := by cases op <;> rfl
theorem guard_sl (op : BinOp) (t : TypeId) (x y : Operand) (a b : Option Addr) (n m c k : Nat) (w : World) : (eqGuard op t x y (.slice a n c) (.slice b m k)).run P w = .ok () w := by cases op <;> rfl
theorem guard_map (op : BinOp) (t : TypeId) (x y : Operand) (a b : Option Nat) (w : World) : (eqGuard op t x y (.map a) (.map b)).run P w = .ok () w := by cases op <;> rfl
theorem guard_f1 (op : BinOp) (t : TypeId) (x y : Operand) (w : World) : (eqGuard op t x y .nilFunc .nilFunc).run P w = .ok () w := by cases op <;> rfl
theorem guard_f2 (op : BinOp) (t : TypeId) (x y : Operand) (a : Fn) (b c : Array Value) (w : World) : (eqGuard op t x y .nilFunc (.func a b c)).run P w = .ok () w := by cases op <;> rfl
theorem guard_f3 (op : BinOp) (t : TypeId) (x y : Operand) (a : Fn) (b c : Array Value) (w : World) : (eqGuard op t x y (.func a b c) .nilFunc).run P w = .ok () w := by cases op <;> rfl
theorem guard_i1 (op : BinOp) (t : TypeId) (x y : Operand) (h : (cst x || cst y) = true) (w : World) : (eqGuard op t x y .nilIface .nilIface).run P w = .ok () w := by
  unfold eqGuard
  cases x <;> cases y <;> simp [cst] at h <;> cases op <;> rfl
theorem guard_i2 (op : BinOp) (t : TypeId) (x y : Operand) (a : TypeId) (b : Value) (w : World) : (eqGuard op t x y .nilIface (.iface a b)).run P w = .ok () w := by cases op <;> rfl
theorem guard_i3 (op : BinOp) (t : TypeId) (x y : Operand) (a : TypeId) (b : Value) (w : World) : (eqGuard op t x y (.iface a b) .nilIface).run P w = .ok () w := by cases op <;> rfl

theorem ek_shape {t : TypeId} {c : Bool} {k : EK} {x y : AV} {u v : Value} {b : Bool} (hk : ekOf P t c = some k) (hx : SRel G L x u) (hy : SRel G L y v) (hb : k.eq x y = some b) (ox oy : Operand) (op : BinOp)
    (hc : c = (cst ox || cst oy)) : (eqGuard op t ox oy u v).run P w = .ok () w ∧
      (binOp .eql t u v = (do pure (.bool (← Op.equal t u v)))) ∧ (binOp .neq t u v = (do pure (.bool (!(← Op.equal t u v))))) := by
  have two : ∀ {nl ad : AV → Bool} {x y : AV}, nilEq nl ad x y = some b → (nl x = true ∨ ad x = true) ∧ (nl y = true ∨ ad y = true) := fun {nl ad x y} q => by
    simp only [nilEq] at q
    split at q
    · rename_i h1
      refine ⟨.inl h1, ?_⟩
      split at q
      · rename_i h2; exact .inl h2
      · split at q
        · rename_i h2; exact .inr h2
        · cases q
    · split at q
      · rename_i h2
        refine ⟨?_, .inl h2⟩
        split at q
        · rename_i h3; exact .inr h3
        · cases q
      · cases q
  unfold ekOf at hk
  split at hk
  · cases hk
    simp only [EK.eq] at hb
    cases x <;> cases y <;> simp [eqBools] at hb
    rw [hx.bool, hy.bool]
    exact ⟨guard_bool _ _ _ _ _ _ _, rfl, rfl⟩
  · split at hk
    rotate_left
    · cases hk
    cases hk
    simp only [EK.eq] at hb
    rcases ptE_cases hb with ⟨bb, oo, rfl, rfl, rfl⟩ | hb
    · rcases hx with ⟨_, _, _, z, _⟩ | hx
      · cases z
      · rcases hy with ⟨_, _, _, z, _⟩ | hy
        · cases z
        · cases hx with
          | ref _ _ B h1 =>
            cases hy with
            | ref _ _ B2 h2 => exact ⟨guard_ptr _ _ _ _ _ _ _, rfl, rfl⟩
    have hp : ∀ {x : AV} {u : Value}, SRel G L x u → (nilP x = true ∨ adP x = true) → ∃ a, u = .pointer a := fun {x u} hx q => by
      rcases q with q | q
      · cases x <;> simp [nilP] at q
        split at q <;> simp_all
        exact ⟨_, hx.pl⟩
      · rcases hx with ⟨_, _, _, rfl, _, rfl⟩ | hx
        · exact ⟨_, rfl⟩
        · cases hx <;> simp [adP] at q <;> exact ⟨_, rfl⟩
    obtain ⟨q1, q2⟩ := two hb
    obtain ⟨a, rfl⟩ := hp hx q1
    obtain ⟨b, rfl⟩ := hp hy q2
    exact ⟨guard_ptr _ _ _ _ _ _ _, rfl, rfl⟩
  · cases hk
    have hp : ∀ {x : AV} {u : Value}, SRel G L x u → (nilS x = true ∨ adS x = true) → ∃ a n c, u = .slice a n c := fun {x u} hx q => by
      rcases q with q | q
      · cases x <;> simp [nilS] at q
        split at q <;> simp_all
        exact ⟨_, _, _, hx.pl⟩
      · rcases hx with ⟨_, _, _, rfl, _, rfl⟩ | hx
        · cases q
        · cases hx <;> simp [adS] at q <;> exact ⟨_, _, _, rfl⟩
    obtain ⟨q1, q2⟩ := two hb
    obtain ⟨a, _, _, rfl⟩ := hp hx q1
    obtain ⟨b, _, _, rfl⟩ := hp hy q2
    exact ⟨guard_sl _ _ _ _ _ _ _ _ _ _ _, rfl, rfl⟩
  · cases hk
    have hp : ∀ {x : AV} {u : Value}, SRel G L x u → (nilM x = true ∨ adM x = true) → ∃ a, u = .map a := fun {x u} hx q => by
      rcases q with q | q
      · cases x <;> simp [nilM] at q
        split at q <;> simp_all
        exact ⟨_, hx.pl⟩
      · rcases hx with ⟨_, _, _, rfl, _, rfl⟩ | hx
        · cases q
        · cases hx <;> simp [adM] at q <;> exact ⟨_, rfl⟩
    obtain ⟨q1, q2⟩ := two hb
    obtain ⟨a, rfl⟩ := hp hx q1
    obtain ⟨b, rfl⟩ := hp hy q2
    exact ⟨guard_map _ _ _ _ _ _ _, rfl, rfl⟩
  · cases hk
    have hp : ∀ {x : AV} {u : Value}, SRel G L x u → (nilF x = true ∨ adF x = true) → u = .nilFunc ∨ ∃ a n c, u = .func a n c := fun {x u} hx q => by
      rcases q with q | q
      · cases x <;> simp [nilF] at q
        split at q <;> simp_all
        exact .inl hx.pl
      · rcases hx with ⟨_, _, _, rfl, _, rfl⟩ | hx
        · cases q
        · cases hx <;> simp [adF] at q <;> exact .inr ⟨_, _, _, rfl⟩
    have hn : nilF x = true ∨ nilF y = true := by
      simp only [EK.eq, nilEq] at hb
      split at hb
      · rename_i q; exact .inl q
      · split at hb
        · rename_i q; exact .inr q
        · cases hb
    have nf : ∀ {x : AV} {u : Value}, SRel G L x u → nilF x = true → u = .nilFunc := fun {x u} hx q => by
      cases x <;> simp [nilF] at q
      split at q <;> simp_all
      exact hx.pl
    obtain ⟨q1, q2⟩ := two hb
    rcases hn with hn | hn
    · rw [nf hx hn]
      rcases hp hy q2 with rfl | ⟨a, n, c, rfl⟩
      · exact ⟨guard_f1 _ _ _ _ _, rfl, rfl⟩
      · exact ⟨guard_f2 _ _ _ _ _ _ _ _, rfl, rfl⟩
    · rw [nf hy hn]
      rcases hp hx q1 with rfl | ⟨a, n, c, rfl⟩
      · exact ⟨guard_f1 _ _ _ _ _, rfl, rfl⟩
      · exact ⟨guard_f3 _ _ _ _ _ _ _ _, rfl, rfl⟩
  · split at hk
    · rename_i hcc
      cases hk
      have hp : ∀ {x : AV} {u : Value}, SRel G L x u → (nilI x = true ∨ adI x = true) → u = .nilIface ∨ ∃ a n, u = .iface a n := fun {x u} hx q => by
        rcases q with q | q
        · cases x <;> simp [nilI] at q
          split at q <;> simp_all
          exact .inl hx.pl
        · rcases hx with ⟨_, _, _, rfl, _, rfl⟩ | hx
          · cases q
          · cases hx <;> simp [adI] at q <;> exact .inr ⟨_, _, rfl⟩
      have hn : nilI x = true ∨ nilI y = true := by
        simp only [EK.eq, nilEq] at hb
        split at hb
        · rename_i q; exact .inl q
        · split at hb
          · rename_i q; exact .inr q
          · cases hb
      have nf : ∀ {x : AV} {u : Value}, SRel G L x u → nilI x = true → u = .nilIface := fun {x u} hx q => by
        cases x <;> simp [nilI] at q
        split at q <;> simp_all
        exact hx.pl
      obtain ⟨q1, q2⟩ := two hb
      rcases hn with hn | hn
      · rw [nf hx hn]
        rcases hp hy q2 with rfl | ⟨a, n, rfl⟩
        · exact ⟨guard_i1 _ _ _ _ (hc ▸ hcc) _, rfl, rfl⟩
        · exact ⟨guard_i2 _ _ _ _ _ _ _, rfl, rfl⟩
      · rw [nf hy hn]
        rcases hp hx q1 with rfl | ⟨a, n, rfl⟩
        · exact ⟨guard_i1 _ _ _ _ (hc ▸ hcc) _, rfl, rfl⟩
        · exact ⟨guard_i3 _ _ _ _ _ _ _, rfl, rfl⟩
    · cases hk
  · rename_i fs ht
    split at hk
    · cases hk
    · rename_i hn
      simp only [Bool.or_eq_true, not_or, Bool.not_eq_true] at hn
      simp only [Option.map_eq_some_iff] at hk
      obtain ⟨ks, hks, rfl⟩ := hk
      simp only [EK.eq] at hb
      cases x <;> cases y <;> simp [eqAggs] at hb
      have h1 := hx.rel (by simp)
      have h2 := hy.rel (by simp)
      cases h1 with
      | agg _ vs hl hv =>
        cases h2 with
        | agg _ us hl' hu => exact ⟨run_eqGuard_agg w op t ox oy _ _ hn.2, rfl, rfl⟩
  · cases hk
theorem eqs_sound (h : Rel W0 G0 w0 N G L st H ca w) {op : BinOp} {t : TypeId} {x y : Operand} {x' y' : Opd} (hx : cOpd N x = some x') (hy : cOpd N y = some y') {k : EK} (hk : ekOf P t (cst x || cst y) = some k)
    {b : Bool} (hb : k.eq (st.ev x') (st.ev y') = some b) (ho : op = .eql ∨ op = .neq) : Gives P G L st w (do eqGuard op t x y (ca.eval x) (ca.eval y); binOp op t (ca.eval x) (ca.eval y)) (.bool (if op = .neq then !b else b)) := by
  have h1 := h.opd hx
  have h2 := h.opd hy
  obtain ⟨g, e1, e2⟩ := ek_shape (w := w) hk h1 h2 hb x y op rfl
  have r := eq_run (w := w) 9998 hk h1 h2 hb
  rw [← run_equal] at r
  rcases ho with rfl | rfl
  · refine .rel (v := .bool b) ?_ (.bool _)
    rw [Sem.run_bind, g, Result.andThen_ok, e1]
    simp [r]
  · refine .rel (v := .bool !b) ?_ (.bool _)
    rw [Sem.run_bind, g, Result.andThen_ok, e2]
    simp [r]
end
end Go.Qa
/- The abstract machine: maps. -/
namespace Go.Qa
open Go Go.RowKit

/-- Kinds of keys: scalars, and arrays or structs of them; pointers, where it is enough to know a key again. -/
inductive KK where
  | sc (k : SK)
  | ag (ks : List SK)
  | pt
  deriving Inhabited
/-- The same pointer. -/
def ptEq : AV → AV → Option Bool
  | .ref b o, .ref c p => if b = c ∧ o = p then some true else none
  | _, _ => none
theorem ptEq_some {x y : AV} {r : Bool} (h : ptEq x y = some r) : r = true ∧ ∃ b o, x = .ref b o ∧ y = .ref b o := by
  unfold ptEq at h
  split at h
  · split at h
    · rename_i q
      cases h
      exact ⟨rfl, _, _, rfl, by rw [q.1, q.2]⟩
    · cases h
  · cases h
def KK.eq : KK → AV → AV → Option Bool
  | .sc k, x, y => scalEq k x y
  | .ag ks, x, y => eqAggs ks x y
  | .pt, x, y => ptEq x y
/-- Where a key stands; outer none: it can't be told. -/
def findAV (k : KK) (key : AV) : List (AV × AV × Nat) → Nat → Option (Option (Nat × AV))
  | [], _ => some none
  | e :: es, i => match k.eq key e.1 with
    | some true => some (some (i, e.2.1))
    | some false => findAV k key es (i + 1)
    | none => none
def lookupAV (k : KK) (zero : AV) (es : List (AV × AV × Nat)) (key : AV) (ok : Bool) : Option AV :=
  match findAV k key es 0 with
  | some (some (_, v)) => some (if ok then .tup [v, .bool true] else v)
  | some none => some (if ok then .tup [zero, .bool false] else zero)
  | none => none
def mapOf (H : AHeap) (x : AV) : Option (List (AV × AV × Nat)) :=
  match x with
  | .pl (.map none) => some []
  | .map m => match H[m]? with
    | some (.map es _) => some es
    | _ => none
  | _ => none
/-- A key by itself. -/
def scOk (k : SK) (key : AV) : Bool := match k, key with
  | .i, .int .. => true
  | .b, .bool _ => true
  | .s, .str _ => true
  | _, _ => false
def scsOk : List SK → List AV → Bool
  | [], [] => true
  | k :: ks, c :: cs => scOk k c && scsOk ks cs
  | _, _ => false
def keyOk (k : KK) (key : AV) : Bool := match k, key with
  | .sc k, x => scOk k x
  | .ag ks, .agg cs => scsOk ks cs
  | .pt, .ref _ _ => true
  | _, _ => false
/-- What keys a type has. -/
def kkOf (P : Program) (t : TypeId) : Option KK :=
  match P.underlying t with
  | some (.array n e) => if (P.info? e).map (·.size) = some 1 then (P.underlying e).bind fun d => (skOf d).map fun k => .ag (List.replicate n k) else none
  | some (.struct fs) => if P.stoodInHeld t then none else (flatFields P 0 fs.toList).map .ag
  | some (.pointer e) => (P.info? e).map fun _ => .pt
  | some d => (skOf d).map .sc
  | none => none
def mupdAV (k : KK) (m : Nat) (key val : AV) (d : Option Nat) (K : AS → AHeap → Prop) (st : AS) (H : AHeap) : Prop :=
  keyOk k key = true ∧ val.glob = true ∧ match H[m]? with
  | some (.map es clock) => match findAV k key es 0 with
    | some (some (i, _)) => K (st.set d (.pl undef)) (H.set m (.map (es.modify i fun e => (key, val, e.2.2)) clock))
    | some none => K (st.set d (.pl undef)) (H.set m (.map (es ++ [(key, val, clock)]) (clock + 1)))
    | none => False
  | _ => False

section
variable {W0 : World} {G0 : Ghost} {w0 : World} {N : Nat} {G G' : Ghost} {L : Nat → Option Nat} {st : AS} {H H' : AHeap} {ca : Act} {w w' : World} {P : Program}

/-- The entries stand for the entries. -/
def ERel (G : Ghost) (es : List (AV × AV × Nat)) (ms : List MapEntry) : Prop :=
  ms.length = es.length ∧ ∀ (j : Nat) (e : AV × AV × Nat) (m : MapEntry), es[j]? = some e → ms[j]? = some m → VRel G e.1 m.key ∧ VRel G e.2.1 m.val ∧ e.2.2 = m.born
theorem ERel.of_obj {i : Nat} {es : List (AV × AV × Nat)} {clock : Nat} (h : ORel G w i (.map es clock)) : ∃ B ms, G.bx i = some B ∧ w.heap[B]? = some (.map ms.toArray clock) ∧ ERel G es ms := by
  obtain ⟨B, ms, h1, h2, h3, h4⟩ := h
  refine ⟨B, ms.toList, h1, by simpa using h2, by simpa using h3, fun j e m he hm => ?_⟩
  have hj : j < es.length := (List.getElem?_eq_some_iff.1 he).1
  obtain ⟨e', m', q1, q2, q3⟩ := h4 j hj
  rw [he] at q1; cases q1
  have : ms[j]? = some m := by simpa using hm
  rw [q2] at this; cases this
  exact q3
theorem ERel.obj {i B : Nat} {es : List (AV × AV × Nat)} {clock : Nat} {ms : List MapEntry} (h1 : G.bx i = some B) (h2 : w.heap[B]? = some (.map ms.toArray clock)) (h : ERel G es ms) : ORel G w i (.map es clock) := by
  refine ⟨B, ms.toArray, h1, h2, by simpa using h.1, fun j hj => ?_⟩
  have hm : j < ms.length := by rw [h.1]; exact hj
  refine ⟨es[j], ms[j], List.getElem?_eq_getElem hj, by simp [hm], h.2 j _ _ (List.getElem?_eq_getElem hj) (List.getElem?_eq_getElem hm)⟩
theorem ERel.nil (G : Ghost) : ERel G [] [] := ⟨rfl, fun j e m h => by simp at h⟩
theorem ERel.cons {e : AV × AV × Nat} {m : MapEntry} {es : List (AV × AV × Nat)} {ms : List MapEntry} (h : ERel G (e :: es) (m :: ms)) : (VRel G e.1 m.key ∧ VRel G e.2.1 m.val ∧ e.2.2 = m.born) ∧ ERel G es ms :=
  ⟨h.2 0 e m rfl rfl, by simpa using h.1, fun j a b ha hb => h.2 (j + 1) a b (by simpa using ha) (by simpa using hb)⟩

theorem scal_now {de : TypeDesc} {k : SK} (hk : skOf de = some k) {x y : AV} {u v : Value} (hx : VRel G x u) (hy : VRel G y v) {b : Bool} (h : scalEq k x y = some b) : Instr.sameNow de u v = some b := by
  cases de <;> simp [skOf] at hk <;> subst hk <;> cases hx <;> cases hy <;> simp [scalEq] at h
  · subst h; rfl
  · obtain ⟨rfl, rfl⟩ := h; simp [Instr.sameNow]
  · subst h
    rename_i s _ s' _
    have := beq_toListBytes (bs s) (bs s')
    rw [bs_toList, bs_toList] at this
    simp only [Instr.sameNow]
    exact congrArg some this
/-- What was found stands for what was found. -/
def FRel (G : Ghost) (n i : Nat) (r : Option (Nat × AV)) (r' : Option (Nat × Value)) : Prop :=
  match r, r' with
  | none, none => True
  | some (j, v), some (j', v') => j = j' ∧ VRel G v v' ∧ i ≤ j ∧ j < i + n
  | _, _ => False
theorem find_now {de : TypeDesc} {k : SK} (hk : skOf de = some k) {key : AV} {kv : Value} (hkey : VRel G key kv) : ∀ {es : List (AV × AV × Nat)} {ms : List MapEntry} (i : Nat) {r : Option (Nat × AV)}, ERel G es ms → findAV (.sc k) key es i = some r →
    ∃ r', Instr.findNow de kv ms i = some r' ∧ FRel G ms.length i r r'
  | [], [], i, r, he, h => by
    simp [findAV] at h; subst h
    exact ⟨none, rfl, trivial⟩
  | [], m :: ms, i, r, he, h => by simp [ERel] at he
  | e :: es, [], i, r, he, h => by simp [ERel] at he
  | e :: es, m :: ms, i, r, he, h => by
    obtain ⟨⟨h1, h2, h3⟩, h4⟩ := he.cons
    simp only [findAV, KK.eq] at h
    split at h
    · rename_i hs
      cases h
      refine ⟨some (i, m.val), by simp [Instr.findNow, scal_now hk hkey h1 hs], rfl, h2, Nat.le_refl _, by simp⟩
    · rename_i hs
      obtain ⟨r', q1, q2⟩ := find_now hk hkey (i + 1) h4 h
      refine ⟨r', by simp [Instr.findNow, scal_now hk hkey h1 hs, q1], ?_⟩
      cases r with
      | none => cases r' <;> simp_all [FRel]
      | some p =>
        obtain ⟨j, v⟩ := p
        cases r' with
        | none => exact q2.elim
        | some p' =>
          obtain ⟨j', v'⟩ := p'
          obtain ⟨a, b, c, d⟩ := q2
          exact ⟨a, b, by omega, by simp; omega⟩
    · cases h

theorem run_checkKey {t : TypeId} {de : TypeDesc} {k : SK} (ht : P.underlying t = some de) (hk : skOf de = some k) (b : Bool) (n : Nat) (v : Value) (w : World) : (Instr.checkKey b (n + 1) t v).run P w = .ok () w := by
  unfold Instr.checkKey
  rw [Sem.run_bind, run_underlying ht]
  cases de <;> simp [skOf] at hk <;> rfl
theorem run_findKey {t : TypeId} {de : TypeDesc} (ht : P.underlying t = some de) {kv : Value} {ms : List MapEntry} {r : Option (Nat × Value)} (h : Instr.findNow de kv ms 0 = some r) (w : World) : (Instr.findKey t kv ms).run P w = .ok r w := by
  simp only [Instr.findKey, Sem.run_bind, run_underlying ht, Result.andThen_ok, h]
  rfl
theorem sameBits_scal {k : SK} {x y : AV} {u v : Value} (hx : VRel G x u) (hy : VRel G y v) (h : scalEq k x y = some true) (n : Nat) : Instr.sameBits n v u = true := by
  have key : ∃ s, (x = s ∧ y = s) ∧ ((∃ k n, s = .int k n) ∨ (∃ b, s = .bool b) ∨ (∃ b, s = .str b)) := by
    unfold scalEq at h
    split at h
    · split at h
      · rename_i e
        subst e
        simp at h
        subst h
        exact ⟨_, ⟨rfl, rfl⟩, .inl ⟨_, _, rfl⟩⟩
      · cases h
    · simp at h; subst h; exact ⟨_, ⟨rfl, rfl⟩, .inr (.inl ⟨_, rfl⟩)⟩
    · simp at h; subst h; exact ⟨_, ⟨rfl, rfl⟩, .inr (.inr ⟨_, rfl⟩)⟩
    · cases h
  obtain ⟨s, ⟨rfl, rfl⟩, ⟨k, n, rfl⟩ | ⟨b, rfl⟩ | ⟨b, rfl⟩⟩ := key
  · cases hx; cases hy; unfold Instr.sameBits; simp
  · cases hx; cases hy; unfold Instr.sameBits; simp
  · cases hx; cases hy; unfold Instr.sameBits; rw [beq_toListBytes]; simp

/-- What is known of a type of keys. -/
structure KLaw (P : Program) (t : TypeId) (k : KK) : Prop where
  chk : ∀ {G : Ghost} {key : AV} {kv : Value} (em : Bool) (w : World), keyOk k key = true → VRel G key kv → (Instr.checkKey em 10000 t kv).run P w = .ok () w
  find : ∀ {G : Ghost} {key : AV} {kv : Value} {es : List (AV × AV × Nat)} {ms : List MapEntry} {r : Option (Nat × AV)} (w : World), VRel G key kv → ERel G es ms → findAV k key es 0 = some r →
    ∃ r', (Instr.findKey t kv ms).run P w = .ok r' w ∧ FRel G ms.length 0 r r'
  same : ∀ {G : Ghost} {x y : AV} {u v : Value}, VRel G x u → VRel G y v → k.eq x y = some true → Instr.sameBits 10000 v u = true
theorem scsOk_get : ∀ {ks : List SK} {cs : List AV}, scsOk ks cs = true → cs.length = ks.length ∧ ∀ j, j < cs.length → scOk (ks.getD j .i) (cs.getD j .any) = true
  | [], [], _ => ⟨rfl, fun j h => by simp at h⟩
  | [], _ :: _, h => by cases h
  | _ :: _, [], h => by cases h
  | k :: ks, c :: cs, h => by
    simp only [scsOk, Bool.and_eq_true] at h
    obtain ⟨h1, h2⟩ := scsOk_get h.2
    refine ⟨by simp [h1], fun j hj => ?_⟩
    cases j with
    | zero => simpa using h.1
    | succ j => simpa using h2 j (by simpa using hj)
theorem klaw_sc {t : TypeId} {de : TypeDesc} {k : SK} (ht : P.underlying t = some de) (hk : skOf de = some k) : KLaw P t (.sc k) := {
  chk em w _ _ := run_checkKey ht hk em 9999 _ w
  find w hkey he hf := by
    obtain ⟨r', q1, q2⟩ := find_now hk hkey 0 he hf
    exact ⟨r', run_findKey ht q1 w, q2⟩
  same hx hy h := sameBits_scal hx hy h 10000 }
theorem eqAggs_some {ks : List SK} {x y : AV} {b : Bool} (h : eqAggs ks x y = some b) : ∃ cs ds, x = .agg cs ∧ y = .agg ds ∧ cs.length = ks.length ∧ ds.length = ks.length ∧ eqCells ks cs ds = some b := by
  unfold eqAggs at h
  split at h
  · split at h
    · rename_i cs ds hl
      exact ⟨cs, ds, rfl, rfl, hl.1, hl.2, h⟩
    · cases h
  · cases h
/-- Keys that are wide: by what == comes to. -/
theorem klaw_ag {t : TypeId} {ks : List SK} (hwide : (match P.underlying t with | some (.array _ _) | some (.struct _) => true | _ => false) = true)
    (hchk : ∀ (vs : List Value) (em : Bool) (w : World), vs.length = ks.length → (Instr.checkKey em 10000 t (.agg vs.toArray)).run P w = .ok () w)
    (heq : ∀ {G : Ghost} {cs ds : List AV} {us vs : List Value} {b : Bool} (w : World), VRels G cs us → VRels G ds vs → cs.length = ks.length → ds.length = ks.length → eqCells ks cs ds = some b → (Op.equal t (.agg us.toArray) (.agg vs.toArray)).run P w = .ok b w) : KLaw P t (.ag ks) := {
  chk := by
    intro G key kv em w hk hv
    cases key <;> simp only [keyOk] at hk <;> try (cases hk; done)
    cases hv with
    | agg cs vs hl h => exact hchk vs em w (by rw [hl]; exact (scsOk_get hk).1)
  find := by
    intro G key kv es ms r w hkey he hf
    rw [run_findKey_eq w hwide]
    have key : ∀ (es : List (AV × AV × Nat)) (ms : List MapEntry) (i : Nat) (r : Option (Nat × AV)), ERel G es ms → findAV (.ag ks) key es i = some r → ∃ r', (Instr.findAsking t kv ms i).run P w = .ok r' w ∧ FRel G ms.length i r r' := by
      intro es
      induction es with
      | nil =>
        intro ms i r he hf
        cases ms with
        | nil => simp [findAV] at hf; subst hf; exact ⟨none, rfl, trivial⟩
        | cons m ms => simp [ERel] at he
      | cons e es ih =>
        intro ms i r he hf
        cases ms with
        | nil => simp [ERel] at he
        | cons m ms =>
          obtain ⟨⟨h1, h2, h3⟩, h4⟩ := he.cons
          simp only [findAV] at hf
          have run : ∀ b, KK.eq (.ag ks) key e.1 = some b → (Op.equal t kv m.key).run P w = .ok b w := by
            intro b hb
            simp only [KK.eq] at hb
            obtain ⟨cs, ds, e1, e2, l3, l4, hb⟩ := eqAggs_some hb
            have hkey2 := hkey
            rw [e1] at hkey2
            rw [e2] at h1
            generalize m.key = mk at h1
            clear hf ih
            cases hkey2 with
            | agg _ us l1 g1 =>
              cases h1 with
              | agg _ vs l2 g2 => exact heq w ⟨l1, g1⟩ ⟨l2, g2⟩ l3 l4 hb
          split at hf
          · rename_i hs
            cases hf
            refine ⟨some (i, m.val), ?_, rfl, h2, Nat.le_refl _, by simp⟩
            simp [Instr.findAsking, run _ hs]
          · rename_i hs
            obtain ⟨r', q1, q2⟩ := ih ms (i + 1) r h4 hf
            refine ⟨r', by simp [Instr.findAsking, run _ hs, q1], ?_⟩
            cases r with
            | none => cases r' <;> simp_all [FRel]
            | some p =>
              obtain ⟨j, v⟩ := p
              cases r' with
              | none => exact q2.elim
              | some p' =>
                obtain ⟨j', v'⟩ := p'
                obtain ⟨a, b, c, d⟩ := q2
                exact ⟨a, b, by omega, by simp; omega⟩
          · cases hf
    exact key es ms 0 r he hf
  same := by
    intro G x y u v hx hy h
    simp only [KK.eq] at h
    obtain ⟨cs, ds, rfl, rfl, l3, l4, h⟩ := eqAggs_some h
    · · cases hx with
        | agg _ us l1 g1 =>
          cases hy with
          | agg _ vs l2 g2 =>
            have all : ∀ (ks : List SK) (cs ds : List AV) (us vs : List Value), VRels G cs us → VRels G ds vs → eqCells ks cs ds = some true → ∀ p ∈ vs.zip us, Instr.sameBits 9999 p.1 p.2 = true := by
              intro ks
              induction ks with
              | nil =>
                intro cs ds us vs h1 h2 h p hp
                cases cs <;> cases ds <;> simp [eqCells] at h
                rw [h1.eq_nil] at hp
                simp at hp
              | cons k ks ih =>
                intro cs ds us vs h1 h2 h p hp
                cases cs with
                | nil => simp [eqCells] at h
                | cons c cs =>
                  cases ds with
                  | nil => simp [eqCells] at h
                  | cons d ds =>
                    obtain ⟨u, us', rfl, r1, r2⟩ := h1.head
                    obtain ⟨v, vs', rfl, r3, r4⟩ := h2.head
                    simp only [eqCells] at h
                    split at h
                    · rename_i hs
                      rw [List.zip_cons_cons, List.mem_cons] at hp
                      rcases hp with rfl | hp
                      · exact sameBits_scal r1 r3 hs 9999
                      · exact ih cs ds us' vs' r2 r4 h p hp
                    · cases h
                    · cases h
            show (vs.toArray.size == us.toArray.size && (vs.toArray.toList.zip us.toArray.toList).all fun (x, y) => Instr.sameBits 9999 x y) = true
            simp only [Bool.and_eq_true, List.all_eq_true]
            refine ⟨by simp; omega, fun p hp => ?_⟩
            exact all ks cs ds us vs ⟨l1, g1⟩ ⟨l2, g2⟩ h p (by simpa using hp) }
theorem run_part_any {t : TypeId} {de : TypeDesc} {k : SK} (ht : P.underlying t = some de) (hk : skOf de = some k) (vs : List Value) (o : Nat) (h : o < vs.length) (w : World) : (part t vs.toArray o).run P w = .ok (vs.getD o undef) w := cell_part ht hk vs o h
theorem klaw_pt {t e : TypeId} {i : TypeInfo} (ht : P.underlying t = some (.pointer e)) (hi : P.info? e = some i) : KLaw P t .pt := {
  chk := by
    intro G key kv em w hk hv
    rw [show (10000 : Nat) = 9999 + 1 from rfl, Instr.checkKey]
    rw [Sem.run_bind, run_underlying ht]
    rfl
  find := by
    intro G key kv es ms r w hkey he hf
    cases es with
    | nil =>
      cases ms with
      | nil =>
        simp [findAV] at hf
        subst hf
        refine ⟨none, ?_, trivial⟩
        simp only [Instr.findKey, Sem.run_bind, run_underlying ht, Result.andThen_ok, Instr.findNow]
        rfl
      | cons m ms => simp [ERel] at he
    | cons e0 es =>
      cases ms with
      | nil => simp [ERel] at he
      | cons m ms =>
        obtain ⟨⟨h1, h2, h3⟩, h4⟩ := he.cons
        simp only [findAV, KK.eq] at hf
        split at hf
        · rename_i hs
          cases hf
          obtain ⟨_, b, o, e1, e2⟩ := ptEq_some hs
          rw [e1] at hkey
          rw [e2] at h1
          generalize hmk : m.key = mk at h1
          cases hkey with
          | ref _ _ B hB =>
            cases h1 with
            | ref _ _ C hC =>
              rw [hB] at hC
              cases hC
              refine ⟨some (0, m.val), ?_, rfl, h2, Nat.le_refl _, by simp⟩
              have hn : Instr.findNow (.pointer e) (.pointer (some ⟨B, o, none⟩)) (m :: ms) 0 = none := by
                simp only [Instr.findNow, Instr.sameNow]
              have heq : (Op.equal t (.pointer (some ⟨B, o, none⟩)) (.pointer (some ⟨B, o, none⟩))).run P w = .ok true w := by
                rw [run_equal]
                unfold Op.equalIn
                rw [Sem.run_bind, run_underlying ht]
                simp [sizeOf, typeInfo, hi, sameAddr]
              simp only [Instr.findKey, Sem.run_bind, run_underlying ht, Result.andThen_ok, hn]
              unfold Instr.findAsking
              rw [hmk, Sem.run_bind, heq]
              rfl
        · rename_i hs
          cases (ptEq_some hs).1
        · cases hf
  same := by
    intro G x y u v hx hy h
    obtain ⟨_, b, o, e1, e2⟩ := ptEq_some h
    rw [e1] at hx
    rw [e2] at hy
    cases hx with
    | ref _ _ B hB =>
      cases hy with
      | ref _ _ C hC =>
        rw [hB] at hC
        cases hC
        unfold Instr.sameBits
        simp }
theorem klaw_of {t : TypeId} {k : KK} (h : kkOf P t = some k) : KLaw P t k := by
  unfold kkOf at h
  split at h
  · rename_i n e ht
    split at h
    · rename_i hsz
      simp only [Option.bind_eq_some_iff, Option.map_eq_some_iff] at h
      obtain ⟨d, hd, k, hk, rfl⟩ := h
      obtain ⟨i, hi, his⟩ := Option.map_eq_some_iff.1 hsz
      have hce : P.cellsOf e = 1 := by simp [Program.cellsOf, hi, his]
      refine klaw_ag (by rw [ht]) (fun vs em w hl => ?_) (fun {G cs ds us vs b} w h1 h2 l1 l2 hb => ?_)
      · rw [List.length_replicate] at hl
        rw [show (10000 : Nat) = 9999 + 1 from rfl, Instr.checkKey]
        simp only [Sem.run_bind, run_underlying ht, Result.andThen_ok]
        simp only [Std.Legacy.Range.forIn_eq_forIn_range', Std.Legacy.Range.size, Nat.sub_zero, Nat.add_one_sub_one, Nat.div_one]
        have all : ∀ is : List Nat, (∀ i ∈ is, i < n) → (forIn is PUnit.unit fun i r => (do
            Instr.checkKey em 9999 e (← part e vs.toArray (i * (← sizeOf e)))
            pure (ForInStep.yield PUnit.unit) : Sem (ForInStep PUnit))).run P w = .ok PUnit.unit w := by
          intro is
          induction is with
          | nil => intro _; simp
          | cons j is ih =>
            intro hj
            have hjl : j < vs.length := by rw [hl]; exact hj j (by simp)
            simp only [List.forIn_cons, Sem.run_bind, run_sizeOf w hi, hce, Nat.mul_one, Result.andThen_ok, run_part_any hd hk vs j hjl w, run_checkKey hd hk em 9998, Sem.run_pure]
            exact ih fun i hi => hj i (by simp [hi])
        have := all (List.range' 0 n) (fun i hi => by simpa using hi)
        simp at this ⊢
        rw [this]
        rfl
      · rw [List.length_replicate] at l1 l2
        show (Op.equalIn (9999 + 1) t (.agg us.toArray) (.agg vs.toArray)).run P w = _
        rw [run_equalIn_array w 9999 us.toArray vs.toArray ht hi, hce]
        have all : ∀ (m o : Nat) (cs ds : List AV), o + m = n → (∀ j, j < cs.length → VRel G (cs.getD j .any) (us.getD (o + j) undef)) → (∀ j, j < ds.length → VRel G (ds.getD j .any) (vs.getD (o + j) undef)) → eqCells (List.replicate m k) cs ds = some b →
            (Op.eqItems 9999 e 1 us.toArray vs.toArray (List.range' o m)).run P w = .ok b w := by
          intro m
          induction m with
          | zero =>
            intro o cs ds ho g1 g2 hb
            cases cs <;> cases ds <;> simp [eqCells] at hb
            subst hb
            rfl
          | succ m ih =>
            intro o cs ds ho g1 g2 hb
            rw [List.replicate_succ] at hb
            rcases cs with _ | ⟨c, cs⟩
            · simp [eqCells] at hb
            rcases ds with _ | ⟨e2, ds⟩
            · simp [eqCells] at hb
            simp only [eqCells] at hb
            have hc : VRel G c (us.getD o undef) := by simpa using g1 0 (by simp)
            have he : VRel G e2 (vs.getD o undef) := by simpa using g2 0 (by simp)
            have q1 := h1.1
            have q2 := h2.1
            simp only [List.range'_succ, Op.eqItems, Nat.mul_one, Sem.run_bind, run_part_any hd hk us o (by omega), run_part_any hd hk vs o (by omega), Result.andThen_ok]
            split at hb
            · rename_i hs
              rw [scal_run hd hk hc he hs]
              simp only [Result.andThen_ok, Bool.not_true, Bool.false_eq_true, if_false]
              refine ih (o + 1) cs ds (by omega) (fun j hj => ?_) (fun j hj => ?_) hb
              · have := g1 (j + 1) (by simpa using hj)
                simpa [Nat.add_assoc, Nat.add_comm 1 j] using this
              · have := g2 (j + 1) (by simpa using hj)
                simpa [Nat.add_assoc, Nat.add_comm 1 j] using this
            · rename_i hs
              cases hb
              rw [scal_run hd hk hc he hs]
              rfl
            · cases hb
        rw [List.range_eq_range']
        exact all n 0 cs ds (by omega) (by simpa using h1.2) (by simpa using h2.2) hb
    · cases h
  · rename_i fs ht
    split at h
    · cases h
    · rename_i hst
      simp only [Bool.not_eq_true] at hst
      simp only [Option.map_eq_some_iff] at h
      obtain ⟨ks, hks, rfl⟩ := h
      have hlen : ∀ (fs : List Field) (o : Nat) (ks : List SK), flatFields P o fs = some ks → ks.length = fs.length := by
        intro fs
        induction fs with
        | nil => intro o ks h; simp [flatFields] at h; subst h; rfl
        | cons f fs ih =>
          intro o ks h
          simp only [flatFields] at h
          split at h
          · cases h
          · simp only [Option.bind_eq_some_iff, Option.map_eq_some_iff] at h
            obtain ⟨_, _, _, _, ks', h, rfl⟩ := h
            simp [ih _ _ h]
      have hfl := hlen _ _ _ hks
      refine klaw_ag (by rw [ht]) (fun vs em w hl => ?_) (fun {G cs ds us vs b} w h1 h2 l1 l2 hb => ?_)
      · rw [show (10000 : Nat) = 9999 + 1 from rfl, Instr.checkKey]
        simp only [Sem.run_bind, run_underlying ht, Result.andThen_ok]
        rw [← Array.forIn_toList]
        have all : ∀ (fs : List Field) (o : Nat) (ks : List SK), flatFields P o fs = some ks → o + fs.length = vs.length → (forIn fs PUnit.unit fun f r => (if f.name ≠ "_" then (do
            Instr.checkKey em 9999 f.type (← part f.type vs.toArray f.offset)
            pure (ForInStep.yield PUnit.unit)) else (pure (ForInStep.yield PUnit.unit)) : Sem (ForInStep PUnit))).run P w = .ok PUnit.unit w := by
          intro fs
          induction fs with
          | nil => intro o ks _ _; simp
          | cons f fs ih =>
            intro o ks h ho
            simp only [flatFields] at h
            split at h
            · cases h
            · rename_i hn
              simp only [Option.bind_eq_some_iff, Option.map_eq_some_iff] at h
              obtain ⟨de, hde, k, hk, ks', hks', rfl⟩ := h
              have hname : f.name ≠ "_" := fun q => hn (.inl q)
              have hoff : f.offset = o := Classical.byContradiction fun q => hn (.inr q)
              simp only [List.length_cons] at ho
              simp only [List.forIn_cons, Sem.run_bind]
              rw [if_pos hname]
              simp only [Sem.run_bind, hoff, run_part_any hde hk vs o (by omega) w, Result.andThen_ok, run_checkKey hde hk em 9998, Sem.run_pure]
              exact ih (o + 1) ks' hks' (by omega)
        have := all fs.toList 0 ks hks (by omega)
        simp at this ⊢
        rw [this]
        rfl
      · show (Op.equalIn (9998 + 2) t (.agg us.toArray) (.agg vs.toArray)).run P w = _
        have hff : P.fieldsOf t = fs := by simp [Program.fieldsOf, ht]
        have q1 := h1.1
        have q2 := h2.1
        rw [run_equalIn_struct w (9998 + 1) t us.toArray vs.toArray (by rw [hff]; exact ht) hst, hff]
        exact fields_run 9998 us vs fs.toList 0 ks hks (by omega) (by omega) (by simpa using h1.2) (by simpa using h2.2) hb
  · rename_i e ht
    simp only [Option.map_eq_some_iff] at h
    obtain ⟨i, hi, rfl⟩ := h
    exact klaw_pt ht hi
  · rename_i d _ _ _ hd
    simp only [Option.map_eq_some_iff] at h
    obtain ⟨k, hk, rfl⟩ := h
    exact klaw_sc hd hk
  · cases h

theorem lookup_sound (h : Rel W0 G0 w0 N G L st H ca w) {t kt et : TypeId} {k : KK} {i : TypeInfo} {z : Value} {za : AV} (ht : P.underlying t = some (.map kt et)) (hk : KLaw P kt k) (hi : P.info? et = some i) (hz : i.zero = some z) (hza : AV.ofConst z = some za)
    {x y : Operand} {x' y' : Opd} (hx : cOpd N x = some x') (hy : cOpd N y = some y') {ok : Bool} {es : List (AV × AV × Nat)} (hes : mapOf H (st.ev x') = some es) (hkey : keyOk k (st.ev y') = true) {r : AV} (hr : lookupAV k za es (st.ev y') ok = some r) :
    Gives P G L st w (Instr.lookup t (ca.eval x) (ca.eval y) ok) r := by
  have h1 := h.opd hx
  have h2 := (h.opd hy).rel (fun t off e => by rw [e] at hkey; rcases k with k | k | _ <;> first | (cases hkey; done) | (cases k <;> cases hkey))
  have hzr := AV.ofConst_rel (G := G) hza
  obtain ⟨ms, hm, her⟩ : ∃ ms : List MapEntry, ERel G es ms ∧ ((ca.eval x = .map none ∧ ms = []) ∨ ∃ B clock, ca.eval x = .map (some B) ∧ w.heap[B]? = some (.map ms.toArray clock)) := by
    generalize ca.eval x = vx at *
    generalize st.ev x' = a at *
    cases a <;> simp only [mapOf] at hes <;> try (cases hes; done)
    · split at hes
      · rename_i e0; cases e0; cases hes
        exact ⟨[], .nil G, .inl ⟨h1.pl, rfl⟩⟩
      · rename_i e0; cases e0
      · cases hes
    · rename_i m
      split at hes
      · rename_i l c hm
        cases hes
        have h3 := h1.rel (by simp)
        cases h3 with
        | map _ B hB =>
          obtain ⟨B', ms, hB', hh, her⟩ := ERel.of_obj (h.inv.obj m _ hm)
          rw [hB] at hB'; cases hB'
          exact ⟨ms, her, .inr ⟨B, _, rfl, hh⟩⟩
      · cases hes
  simp only [lookupAV] at hr
  have hzero : (zeroValue et).run P w = .ok z w := by simp [zeroValue, typeInfo, hi, hz]
  have hrun : ∀ (q : Option (Nat × Value)), (Instr.findKey kt (ca.eval y) ms).run P w = .ok q w → (Instr.lookup t (ca.eval x) (ca.eval y) ok).run P w =
      .ok (if ok then .tuple #[((q.map Prod.snd).getD z), .bool q.isSome] else ((q.map Prod.snd).getD z)) w := by
    intro q hq
    have fin : (do
        Instr.checkKey ms.toArray.isEmpty 10000 kt (ca.eval y)
        match ← Instr.findKey kt (ca.eval y) ms with
          | some (_, v) => do
            let p ← (pure (v, true) : Sem (Value × Bool))
            pure (if ok = true then Value.tuple #[p.1, Value.bool p.2] else p.1)
          | none => do
            let l ← zeroValue et
            let p ← (pure (l, false) : Sem (Value × Bool))
            pure (if ok = true then Value.tuple #[p.1, Value.bool p.2] else p.1) : Sem Value).run P w =
        .ok (if ok then .tuple #[((q.map Prod.snd).getD z), .bool q.isSome] else ((q.map Prod.snd).getD z)) w := by
      rw [Sem.run_bind, hk.chk _ w hkey h2, Result.andThen_ok, Sem.run_bind, hq, Result.andThen_ok]
      cases q <;> simp [hzero]
    rcases her with ⟨e, rfl⟩ | ⟨B, clock, e, hh⟩
    · simp only [Instr.lookup, Sem.run_bind (x := underlying t), run_underlying ht, Result.andThen_ok, e]
      exact fin
    · have hg : (getObj B).run P w = .ok (.map ms.toArray clock) w := by simp [getObj, Sem.run, hh]
      simp only [Instr.lookup, Sem.run_bind (x := underlying t), run_underlying ht, Result.andThen_ok, e, Sem.run_bind (x := getObj B), hg]
      exact fin
  split at hr
  · rename_i j v hf
    cases hr
    obtain ⟨r', q1, q2⟩ := hk.find w h2 hm hf
    cases r' with
    | none => exact q2.elim
    | some p =>
      obtain ⟨j', v'⟩ := p
      obtain ⟨_, hv, _⟩ := q2
      refine .rel (hrun _ q1) ?_
      cases ok
      · exact hv
      · exact .tup [v, .bool true] [v', .bool true] rfl (VRels.cons hv (.cons (.bool _) (.nil G))).2
  · rename_i hf
    cases hr
    obtain ⟨r', q1, q2⟩ := hk.find w h2 hm hf
    cases r' with
    | some p => exact q2.elim
    | none =>
      refine .rel (hrun _ q1) ?_
      cases ok
      · exact hzr
      · exact .tup [za, .bool false] [z, .bool false] rfl (VRels.cons hzr (.cons (.bool _) (.nil G))).2
  · cases hr

/-- An object that is no row is turned. -/
theorem HInv.setObj (h : HInv W0 H G w) (m B : Nat) (o o' : AObj) (ob : Obj) (hm : H[m]? = some o) (hB : G.bx m = some B) (hlive : o ≠ AObj.dead) (hrow : ∀ k, o' ≠ .row k) (hnc : ∀ c t f, w.heap[B]? ≠ some (.cells c t f)) (ho : ∀ w', w'.heap[B]? = some ob → ORel G w' m o') :
    HInv W0 (H.set m o') G { w with heap := w.heap.setIfInBounds B ob } ∧ Next G w G { w with heap := w.heap.setIfInBounds B ob } := by
  obtain ⟨n, hn⟩ := Option.ne_none_iff_exists'.1 (h.bxs m B hB).2.1
  have hlt := h.lt B n hn
  have hne : ∀ C, C ≠ B → (w.heap.setIfInBounds B ob)[C]? = w.heap[C]? := fun C q => Array.getElem?_setIfInBounds_ne (Ne.symm q)
  have hself : (w.heap.setIfInBounds B ob)[B]? = some ob := by rw [Array.getElem?_setIfInBounds_self, if_pos hlt.2]
  have hml : m < H.length := (List.getElem?_eq_some_iff.1 hm).1
  refine ⟨?_, ⟨.refl G, by simp, fun C _ q => hne C (fun e => by rw [e, hn] at q; cases q), fun _ _ q => .inl q⟩⟩
  have hlb : H[m]? ≠ some AObj.dead := by rw [hm]; simpa using hlive
  have hlv : ∀ i, (H.set m o')[i]? ≠ some AObj.dead → H[i]? ≠ some AObj.dead := fun i => live_set hm hlive
  refine { base := ?_, lt := fun C k e => by simp; exact h.lt C k e, imm := fun C p v e => ?_, bxs := fun i C e => ?_, inj := fun i j C hi hj li lj => h.inj i j C hi hj (hlv i li) (hlv j lj), ats := fun t k C E e => ?_, obj := fun i x e => ?_, cur := ?_ }
  · refine h.base.trans ⟨rfl, rfl, rfl, by simp, fun k hk => hne k (by omega)⟩
  · obtain ⟨q, r⟩ := h.imm C p v e
    refine ⟨q, ?_⟩
    have : C ≠ B := by rintro rfl; rw [(h.bxs m _ hB).2.2 hlb p] at e; cases e
    exact (cell_of_heap (w' := { w with heap := w.heap.setIfInBounds B ob }) (hne C this) p).trans r
  · obtain ⟨q1, q2, q3⟩ := h.bxs i C e
    rw [List.length_set]; exact ⟨q1, q2, fun z => q3 (hlv i z)⟩
  · obtain ⟨q1, q2, q3⟩ := h.ats t k C E e
    rw [List.length_set]; exact ⟨q1, q2, fun i z => dead_set hm hlive (q3 i z)⟩
  · by_cases q : m = i
    · subst q
      rw [List.getElem?_set_self hml] at e
      cases e
      exact ho _ hself
    · rw [List.getElem?_set_ne q] at e
      have hx := h.obj i x e
      have hb : x ≠ AObj.dead → ∀ C, G.bx i = some C → C ≠ B := fun hd C hC z => q (h.inj m i B hB (z ▸ hC) hlb (by rw [e]; simpa using hd))
      cases x with
      | cells cs =>
        obtain ⟨C, vs, ty, fz, p1, p2, p3⟩ := hx
        exact ⟨C, vs, ty, fz, p1, (hne C (hb (by simp) C p1)).trans p2, p3⟩
      | row k =>
        obtain ⟨C, E, vs, ty, fz, p1, p2, p3⟩ := hx
        exact ⟨C, E, vs, ty, fz, p1, (hne C (fun z => hlb ((h.ats i k C E p1).2.2 m (z ▸ hB)))).trans p2, p3⟩
      | map es clock =>
        obtain ⟨C, ms, p1, p2, p3⟩ := hx
        exact ⟨C, ms, p1, (hne C (hb (by simp) C p1)).trans p2, p3⟩
      | iter a b c d =>
        obtain ⟨C, p1, mB, p2, p3⟩ := hx
        exact ⟨C, p1, mB, (hne C (hb (by simp) C p1)).trans p2, p3⟩
      | siter s pos =>
        obtain ⟨C, p1, p2⟩ := hx
        exact ⟨C, p1, (hne C (hb (by simp) C p1)).trans p2⟩
      | loop busy ss ps asg body pend =>
        obtain ⟨C, r, p1, p2, p3⟩ := hx
        exact ⟨C, r, p1, (hne C (hb (by simp) C p1)).trans p2, p3⟩
      | dead => exact trivial
  · have key : ∀ (t k : Nat), (H.set m o')[t]? = some (AObj.row k) → H[t]? = some (AObj.row k) := by
      intro t k e
      by_cases q : m = t
      · subst q; rw [List.getElem?_set_self hml] at e; exact absurd (Option.some.inj e) (hrow k)
      · rwa [List.getElem?_set_ne q] at e
    intro t t' k k' C E E' e e' a a'
    exact h.cur t t' k k' C E E' (key t k e) (key t' k' e') a a'

theorem run_setObj {B : Nat} {ob ob' : Obj} (h : w.heap[B]? = some ob) (hc : ∀ c t f, ob ≠ .cells c t f) : (setObj B ob').run P w = .ok () { w with heap := w.heap.setIfInBounds B ob' } := by
  cases ob <;> simp_all [setObj, Sem.run]

theorem find_scal {k : KK} {key : AV} : ∀ {es : List (AV × AV × Nat)} (i : Nat) {j : Nat} {v : AV}, findAV k key es i = some (some (j, v)) → ∃ e, es[j - i]? = some e ∧ k.eq key e.1 = some true ∧ i ≤ j
  | [], i, j, v, h => by simp [findAV] at h
  | e :: es, i, j, v, h => by
    simp only [findAV] at h
    split at h
    · rename_i hs
      cases h
      exact ⟨e, by simp, hs, Nat.le_refl _⟩
    · obtain ⟨e', h1, h2, h3⟩ := find_scal (i + 1) h
      refine ⟨e', ?_, h2, by omega⟩
      rw [show j - i = (j - (i + 1)) + 1 by omega, List.getElem?_cons_succ]
      exact h1
    · cases h

variable {o : Oper} {K : AS → AHeap → Prop} {Q : Exit → Act → World → Prop}
theorem ERel.set {es : List (AV × AV × Nat)} {ms : List MapEntry} (h : ERel G es ms) {key val : AV} {kv vv : Value} (hk : VRel G key kv) (hv : VRel G val vv) (i : Nat) :
    ERel G (es.modify i fun e => (key, val, e.2.2)) (ms.modify i fun e => { e with key := kv, val := vv }) := by
  refine ⟨by simp [h.1], fun j e m he hm => ?_⟩
  rw [List.getElem?_modify] at he hm
  obtain ⟨e0, h1, rfl⟩ := Option.map_eq_some_iff.1 he
  obtain ⟨m0, h2, rfl⟩ := Option.map_eq_some_iff.1 hm
  obtain ⟨a, b, c⟩ := h.2 j e0 m0 h1 h2
  split
  · exact ⟨hk, hv, c⟩
  · exact ⟨a, b, c⟩
theorem ERel.push {es : List (AV × AV × Nat)} {ms : List MapEntry} (h : ERel G es ms) {key val : AV} {kv vv : Value} (hk : VRel G key kv) (hv : VRel G val vv) (c : Nat) :
    ERel G (es ++ [(key, val, c)]) (ms ++ [{ key := kv, val := vv, born := c }]) := by
  refine ⟨by simp [h.1], fun j e m he hm => ?_⟩
  rcases Nat.lt_or_ge j es.length with q | q
  · rw [List.getElem?_append_left q] at he
    rw [List.getElem?_append_left (by rw [h.1]; exact q)] at hm
    exact h.2 j e m he hm
  · rw [List.getElem?_append_right q] at he
    rw [List.getElem?_append_right (by rw [h.1]; exact q), h.1] at hm
    have hj : j - es.length = 0 := by
      have := (List.getElem?_eq_some_iff.1 he).1
      simp at this; omega
    simp [hj] at he hm
    subst he hm
    exact ⟨hk, hv, rfl⟩

theorem mupd_sound (h : Rel W0 G0 w0 N G L st H ca w) {t kt et : TypeId} {k : KK} (ht : P.underlying t = some (.map kt et)) (hk : KLaw P kt k)
    {x y v : Operand} {x' y' v' : Opd} (hx : cOpd N x = some x') (hy : cOpd N y = some y') (hv : cOpd N v = some v') {m : Nat} (hm : st.ev x' = .map m) (hop : execOp ca.eval o = (do Instr.mapUpdate t (ca.eval x) (ca.eval y) (ca.eval v); pure .skip))
    (hk2 : mupdAV k m (st.ev y') (st.ev v') o.dst K st H) : o.wp P ca w (Post W0 G0 w0 N K) Q := by
  have h1 := (h.opd hx).rel (by rw [hm]; simp)
  obtain ⟨hkey, hgl, hk2⟩ := hk2
  have h2 := (h.opd hy).rel (fun t off e => by rw [e] at hkey; rcases k with k | k | _ <;> first | (cases hkey; done) | (cases k <;> cases hkey))
  have h3 := (h.opd hv).rel (fun t off e => by rw [e] at hgl; cases hgl)
  generalize hvx : ca.eval x = vx at *
  rw [hm] at h1
  cases h1 with
  | map _ B hB =>
    split at hk2
    · rename_i es clock hes
      obtain ⟨B', ms, hB', hh, her⟩ := ERel.of_obj (h.inv.obj m _ hes)
      rw [hB] at hB'; cases hB'
      have hg : (getObj B).run P w = .ok (.map ms.toArray clock) w := by simp [getObj, Sem.run, hh]
      have hnc : ∀ c t f, w.heap[B]? ≠ some (.cells c t f) := fun c t f q => by rw [hh] at q; cases q
      have run : ∀ (q : Option (Nat × Value)) (ob : Obj), (Instr.findKey kt (ca.eval y) ms).run P w = .ok q w →
          ((match q with
            | some (i, _) => (do
              let key ← Instr.keyThatStays (((ms.toArray[i]?).map (fun (x : MapEntry) => x.key)).getD (ca.eval y)) (ca.eval y)
              setObj B (.map (ms.toArray.modify i fun e => { e with key, val := ca.eval v }) clock) : Sem Unit)
            | none => setObj B (.map (ms.toArray.push { key := ca.eval y, val := ca.eval v, born := clock }) (clock + 1))).run P w = .ok () { w with heap := w.heap.setIfInBounds B ob }) →
          (execOp ca.eval o).run P w = .ok .skip { w with heap := w.heap.setIfInBounds B ob } := by
        intro q ob hq hr
        rw [hop]
        simp only [Sem.run_bind, Instr.mapUpdate, run_underlying ht, Result.andThen_ok, hvx, hg, hk.chk _ w hkey h2]
        rw [hq]
        simp only [Result.andThen_ok]
        cases q with
        | none => simp only at hr ⊢; rw [hr]; rfl
        | some p => obtain ⟨i, z⟩ := p; simp only at hr ⊢; rw [hr]; rfl
      have fin : ∀ (es' : List (AV × AV × Nat)) (clock' : Nat) (ms' : List MapEntry), ERel G es' ms' → K (st.set o.dst (.pl undef)) (H.set m (.map es' clock')) → (execOp ca.eval o).run P w = .ok .skip { w with heap := w.heap.setIfInBounds B (.map ms'.toArray clock') } → o.wp P ca w (Post W0 G0 w0 N K) Q := by
        intro es' clock' ms' her' k hrun
        obtain ⟨hi, hn⟩ := h.inv.setObj m B _ (.map es' clock') (.map ms'.toArray clock') hes hB (by simp) (by simp) hnc (fun w' hw' => her'.obj hB hw')
        unfold Oper.wp
        rw [hrun]
        exact ⟨_, _, k, _, _, (h.step hn hi).set o.dst (.of (.pl _)) (by simp)⟩
      split at hk2
      · rename_i i u hf
        obtain ⟨r', q1, q2⟩ := hk.find w h2 her hf
        cases r' with
        | none => exact q2.elim
        | some p =>
          obtain ⟨j', u'⟩ := p
          obtain ⟨rfl, _, _, hlt⟩ := q2
          obtain ⟨e, he, hse, _⟩ := find_scal 0 hf
          simp at he hlt
          have hmi : ms[i]? = some ms[i] := List.getElem?_eq_getElem hlt
          have hsb := hk.same h2 (her.2 i e _ he hmi).1 hse
          refine fin _ _ _ (her.set h2 h3 i) hk2 (run _ _ q1 ?_)
          have hks : (Instr.keyThatStays (((ms.toArray[i]?).map (fun (x : MapEntry) => x.key)).getD (ca.eval y)) (ca.eval y)).run P w = .ok (ca.eval y) w := by
            have : ((ms.toArray[i]?).map (fun (x : MapEntry) => x.key)).getD (ca.eval y) = ms[i].key := by simp [hlt]
            rw [this]
            simp [Instr.keyThatStays, hsb]
          simp only [Sem.run_bind, hks, Result.andThen_ok]
          rw [run_setObj hh (by simp)]
          congr 3
          simp [List.modify_toArray]
      · rename_i hf
        obtain ⟨r', q1, q2⟩ := hk.find w h2 her hf
        cases r' with
        | some p => exact q2.elim
        | none =>
          refine fin _ _ _ (her.push h2 h3 clock) hk2 (run _ _ q1 ?_)
          simp only
          rw [run_setObj hh (by simp)]
          congr 3
          simp
      · exact hk2.elim
    · exact hk2.elim

theorem mkmap_sound (h : Rel W0 G0 w0 N G L st H ca w) (hrun : (execOp ca.eval o).run P w = .ok (.value (.map (some w.heap.size))) (w.alloc (.map #[] 0))) (k : K (st.set o.dst (.map H.length)) (H ++ [.map [] 0])) : o.wp P ca w (Post W0 G0 w0 N K) Q := by
  have hi := h.inv.addB (.map [] 0) (.map #[] 0) 0 (by simp) (ERel.obj (ms := []) (by simp [Ghost.addB]) heap_push_new (.nil _))
  have hn := h.inv.addB_next (.map #[] 0) 0
  refine wp_value0 hrun ?_
  exact ⟨_, _, k, _, _, (h.step hn hi).set o.dst (.of (.map _ _ (by simp [Ghost.addB]))) (by simp)⟩
end
end Go.Qa
/- The abstract machine: ranging over a map; some conversions. -/
namespace Go.Qa
open Go Go.RowKit

abbrev Ent := AV × AV × Nat
/-- What the next step of a range may give: nothing any more, or an entry. -/
def candAV (es : List Ent) (since : Nat) (seen : List Nat) : List (Option Ent) :=
  let left := es.filter fun e => !seen.contains e.2.2
  let old := left.filter fun e => decide (e.2.2 < since)
  let new := left.filter fun e => decide (since ≤ e.2.2)
  (if old.isEmpty then [none] else []) ++ (old ++ new).map some
def rangeAV (x : AV) (d : Option Nat) (K : AS → AHeap → Prop) (st : AS) (H : AHeap) : Prop :=
  match x with
  | .pl (.map none) => K (st.set d (.itr H.length)) (H ++ [.iter none 0 [] 0])
  | .map m => match H[m]? with
    | some (.map _ clock) => K (st.set d (.itr H.length)) (H ++ [.iter (some m) clock [] clock])
    | _ => False
  | _ => False
def nextAV (x : AV) (d : Option Nat) (K : AS → AHeap → Prop) (st : AS) (H : AHeap) : Prop :=
  match x with
  | .itr r => match H[r]? with
    | some (.iter none _ _ _) => K (st.set d (.tup [.bool false])) H
    | some (.iter (some m) since seen last) => match H[m]? with
      | some (.map es clock) => (seen = [] ∨ es = [] ∨ ∃ e ∈ es, e.2.2 < last) ∧ ∀ c ∈ candAV es since seen, match c with
        | none => K (st.set d (.tup [.bool false])) H
        | some e => K (st.set d (.tup [.bool true, e.1, e.2.1])) (H.set r (.iter (some m) since (seen ++ [e.2.2]) clock))
      | _ => False
    | _ => False
  | _ => False
/-- The entry of the last step. -/
def entryAV (H : AHeap) (x : AV) : Option AV :=
  match x with
  | .itr r => match H[r]? with
    | some (.iter (some m) _ seen stepped) => match H[m]?, seen.getLast? with
      | some (.map es clock), some stamp => if clock = stepped then (es.find? fun e => e.2.2 == stamp).map fun e => .tup [e.1, e.2.1] else none
      | _, _ => none
    | _ => none
  | _ => none

section
variable {W0 : World} {G0 : Ghost} {w0 : World} {N : Nat} {G G' : Ghost} {L : Nat → Option Nat} {st : AS} {H H' : AHeap} {ca : Act} {w w' : World} {P : Program} {o : Oper} {K : AS → AHeap → Prop} {Q : Exit → Act → World → Prop}

theorem ERel.filter (p : Nat → Bool) : ∀ {es : List Ent} {ms : List MapEntry}, ERel G es ms → ERel G (es.filter fun e => p e.2.2) (ms.filter fun m => p m.born)
  | [], [], h => .nil G
  | [], m :: ms, h => by simp [ERel] at h
  | e :: es, [], h => by simp [ERel] at h
  | e :: es, m :: ms, h => by
    obtain ⟨⟨h1, h2, h3⟩, h4⟩ := h.cons
    have ih := ERel.filter p h4
    simp only [List.filter_cons, h3]
    split
    · refine ⟨by simp [ih.1], fun j a b ha hb => ?_⟩
      cases j with
      | zero => simp at ha hb; subst ha hb; exact ⟨h1, h2, h3⟩
      | succ j => exact ih.2 j a b (by simpa using ha) (by simpa using hb)
    · exact ih
theorem ERel.append {es fs : List Ent} {ms ns : List MapEntry} (h : ERel G es ms) (k : ERel G fs ns) : ERel G (es ++ fs) (ms ++ ns) := by
  refine ⟨by simp [h.1, k.1], fun j a b ha hb => ?_⟩
  rcases Nat.lt_or_ge j es.length with q | q
  · rw [List.getElem?_append_left q] at ha
    rw [List.getElem?_append_left (by rw [h.1]; exact q)] at hb
    exact h.2 j a b ha hb
  · rw [List.getElem?_append_right q] at ha
    rw [List.getElem?_append_right (by rw [h.1]; exact q), h.1] at hb
    exact k.2 _ a b ha hb

theorem range_sound (h : Rel W0 G0 w0 N G L st H ca w) {t kt et : TypeId} (ht : P.underlying t = some (.map kt et)) {x : Operand} {x' : Opd} (hx : cOpd N x = some x') (hop : execOp ca.eval o = (do pure (.value (← Instr.range t (ca.eval x)))))
    (k : rangeAV (st.ev x') o.dst K st H) : o.wp P ca w (Post W0 G0 w0 N K) Q := by
  have h1 := h.opd hx
  generalize hvx : ca.eval x = vx at *
  generalize st.ev x' = a at *
  have fin : ∀ (ob : Obj) (io : AObj), (∀ k, io ≠ .row k) → ORel (G.addB H.length w.heap.size 0) (w.alloc ob) H.length io → (Instr.range t vx).run P w = .ok (.pointer (some ⟨w.heap.size, 0, none⟩)) (w.alloc ob) → K (st.set o.dst (.itr H.length)) (H ++ [io]) → o.wp P ca w (Post W0 G0 w0 N K) Q := by
    intro ob io hr ho hrun k
    have hi := h.inv.addB io ob 0 hr ho
    have hn := h.inv.addB_next ob 0
    refine wp_value0 (by rw [hop]; simp only [Sem.run_bind, hrun, Result.andThen_ok, Sem.run_pure]; rfl) ?_
    exact ⟨_, _, k, _, _, (h.step hn hi).set o.dst (.of (.itr _ _ (by simp [Ghost.addB]))) (by simp)⟩
  unfold rangeAV at k
  split at k
  · have e := h1.pl
    subst e
    refine fin (.mapIter none 0 #[] 0) (.iter none 0 [] 0) (by simp) ⟨w.heap.size, by simp [Ghost.addB], none, heap_push_new, rfl⟩ ?_ k
    simp [Instr.range, run_underlying ht, World.alloc_eq]
  · rename_i m
    have h2 := h1.rel (by simp)
    split at k
    · rename_i es clock hm
      cases h2 with
      | map _ B hB =>
        obtain ⟨B', ms, hB', hh, her⟩ := ERel.of_obj (h.inv.obj m _ hm)
        rw [hB] at hB'; cases hB'
        have hg : (getObj B).run P w = .ok (.map ms.toArray clock) w := by simp [getObj, Sem.run, hh]
        have hlt : m < H.length := (List.getElem?_eq_some_iff.1 hm).1
        refine fin (.mapIter (some B) clock #[] clock) (.iter (some m) clock [] clock) (by simp) ⟨w.heap.size, by simp [Ghost.addB], some B, heap_push_new, B, ?_, rfl⟩ ?_ k
        · simp only [Ghost.addB]; rw [if_neg (by omega)]; exact hB
        · simp [Instr.range, run_underlying ht, hg]
    · exact k.elim
  · exact k.elim

/-- The model's candidates. -/
def candC (ms : List MapEntry) (since : Nat) (seen : List Nat) : List (Option MapEntry) :=
  let left := ms.filter fun e => !seen.contains e.born
  let old := left.filter fun e => decide (e.born < since)
  let new := left.filter fun e => decide (since ≤ e.born)
  (if old.isEmpty then [none] else []) ++ (old ++ new).map some
theorem cand_rel {es : List Ent} {ms : List MapEntry} (h : ERel G es ms) (since : Nat) (seen : List Nat) : (candC ms since seen).length = (candAV es since seen).length ∧
    ∀ (i : Nat) (c : Option Ent) (c' : Option MapEntry), (candAV es since seen)[i]? = some c → (candC ms since seen)[i]? = some c' → match c, c' with
      | none, none => True
      | some e, some m => VRel G e.1 m.key ∧ VRel G e.2.1 m.val ∧ e.2.2 = m.born
      | _, _ => False := by
  have h1 := h.filter (fun b => !seen.contains b)
  have h2 := h1.filter (fun b => decide (b < since))
  have h3 := h1.filter (fun b => decide (since ≤ b))
  have h4 := h2.append h3
  simp only [candC, candAV]
  generalize (ms.filter fun e => !seen.contains e.born).filter (fun e => decide (e.born < since)) = old' at *
  generalize (es.filter fun e => !seen.contains e.2.2).filter (fun e => decide (e.2.2 < since)) = old at *
  generalize (ms.filter fun e => !seen.contains e.born).filter (fun e => decide (since ≤ e.born)) = new' at *
  generalize (es.filter fun e => !seen.contains e.2.2).filter (fun e => decide (since ≤ e.2.2)) = new at *
  have key : ∀ (i : Nat) (c : Option Ent) (c' : Option MapEntry), ((old ++ new).map some)[i]? = some c → ((old' ++ new').map some)[i]? = some c' → match c, c' with
      | none, none => True
      | some e, some m => VRel G e.1 m.key ∧ VRel G e.2.1 m.val ∧ e.2.2 = m.born
      | _, _ => False := by
    intro i c c' hc hc'
    rw [List.getElem?_map] at hc hc'
    obtain ⟨e, he, rfl⟩ := Option.map_eq_some_iff.1 hc
    obtain ⟨m, hm, rfl⟩ := Option.map_eq_some_iff.1 hc'
    exact h4.2 i e m he hm
  have hl : (old' ++ new').length = (old ++ new).length := h4.1
  have he : old'.isEmpty = old.isEmpty := by
    have := h2.1
    cases old' <;> cases old <;> simp_all
  rw [he]
  cases old.isEmpty with
  | false => exact ⟨by simpa using hl, by simpa using key⟩
  | true =>
    refine ⟨by simpa using hl, fun i c c' hc hc' => ?_⟩
    cases i with
    | zero => simp at hc hc'; subst hc hc'; trivial
    | succ i => exact key i c c' (by simpa using hc) (by simpa using hc')

theorem candC_pos (ms : List MapEntry) (since : Nat) (seen : List Nat) : 0 < (candC ms since seen).length := by
  simp only [candC]
  split
  · simp
  · rename_i q
    rw [List.nil_append, List.length_map, List.length_append]
    generalize ((ms.filter fun e => !seen.contains e.born).filter fun e => decide (e.born < since)) = l at *
    cases l
    · simp at q
    · simp; omega

theorem next_sound (h : Rel W0 G0 w0 N G L st H ca w) {x : Operand} {x' : Opd} (hx : cOpd N x = some x') {ty : TypeId} (hop : execOp ca.eval o = (do pure (.value (← Instr.next (ca.eval x) false ty))))
    (k : nextAV (st.ev x') o.dst K st H) : o.wp P ca w (Post W0 G0 w0 N K) Q := by
  have h1 := h.opd hx
  generalize hvx : ca.eval x = vx at *
  generalize st.ev x' = a at *
  unfold nextAV at k
  split at k
  · rename_i r
    have h2 := h1.rel (by simp)
    cases h2 with
    | itr _ R hR =>
      split at k
      · rename_i sn se sp hr
        obtain ⟨R', hR', mB, hh, hmB⟩ := h.inv.obj r _ hr
        rw [hR] at hR'; cases hR'
        simp only at hmB
        subst hmB
        have hg : (getObj R).run P w = .ok (.mapIter none sn se.toArray sp) w := by simp [getObj, Sem.run, hh]
        have run : (Instr.next (.pointer (some ⟨R, 0, none⟩)) false ty).run P w = .ok (.tuple #[.bool false]) w := by
          simp [Instr.next, hg]
        refine wp_value0 (by rw [hop]; simp only [Sem.run_bind, run, Result.andThen_ok, Sem.run_pure]; rfl) ?_
        exact ⟨_, _, k, _, _, h.set o.dst (.of (.tup [.bool false] [.bool false] rfl (VRels.cons (.bool _) (.nil G)).2)) (by simp)⟩
      · rename_i m since seen last hr
        obtain ⟨R', hR', mB, hh, M, hM, hmB⟩ := h.inv.obj r _ hr
        rw [hR] at hR'; cases hR'
        subst hmB
        split at k
        · rename_i es clock hm
          obtain ⟨hok, k⟩ := k
          obtain ⟨M', ms, hM', hhm, her⟩ := ERel.of_obj (h.inv.obj m _ hm)
          rw [hM] at hM'; cases hM'
          have hg : (getObj R).run P w = .ok (.mapIter (some M) since seen.toArray last) w := by simp [getObj, Sem.run, hh]
          have hg2 : (getObj M).run P w = .ok (.map ms.toArray clock) w := by simp [getObj, Sem.run, hhm]
          obtain ⟨hcl, hcr⟩ := cand_rel her since seen
          have hpos := candC_pos ms since seen
          -- the choice
          obtain ⟨i, w1, hch, hi, hw1⟩ : ∃ i w1, (choose (.mapNext (candC ms since seen).length)).run P w = .ok i w1 ∧ i < (candC ms since seen).length ∧ (w1 = w ∨ w1 = w.drew) := by
            rw [run_choose_drew]
            split
            · exact ⟨0, w, rfl, hpos, .inl rfl⟩
            · exact ⟨_, w.drew, rfl, Nat.mod_lt _ hpos, .inr rfl⟩
          have h' : Rel W0 G0 w0 N G L st H ca w1 := by
            rcases hw1 with rfl | rfl
            · exact h
            · exact h.drew
          have hh1 : w1.heap = w.heap := by rcases hw1 with rfl | rfl <;> rfl
          have hguard : (!seen.toArray.isEmpty && !ms.toArray.isEmpty && ms.toArray.all (fun e => decide (e.born ≥ last))) = false := by
            rcases hok with rfl | rfl | ⟨e, he, hlt⟩
            · simp
            · have : ms = [] := by have := her.1; simpa using this
              subst this; simp
            · obtain ⟨j, hj⟩ := List.getElem?_of_mem he
              have hjl : j < ms.length := by rw [her.1]; exact (List.getElem?_eq_some_iff.1 hj).1
              have hb := (her.2 j e _ hj (List.getElem?_eq_getElem hjl)).2.2
              have : ms.all (fun e => decide (e.born ≥ last)) = false := by
                rw [List.all_eq_false]
                exact ⟨ms[j], List.getElem_mem hjl, by simp; omega⟩
              simp [this]
          have hcands : ((if ((ms.toArray.filter fun e => !seen.toArray.contains e.born).filter fun e => decide (e.born < since)).isEmpty then #[none] else #[]) ++
              (((ms.toArray.filter fun e => !seen.toArray.contains e.born).filter fun e => decide (e.born < since)) ++ ((ms.toArray.filter fun e => !seen.toArray.contains e.born).filter fun e => decide (e.born ≥ since))).map some) = (candC ms since seen).toArray := by
            apply Array.ext'
            simp only [candC]
            simp
            split <;> simp_all
          have run : ∀ (c' : Option MapEntry) (w2 : World) (v : Value), (candC ms since seen)[i]? = some c' → ((match c' with
              | some e => (do setObj R (.mapIter (some M) since (seen.toArray.push e.born) clock); pure (.tuple #[.bool true, e.key, e.val]) : Sem Value)
              | none => pure (.tuple #[.bool false])).run P w1 = .ok v w2) → (Instr.next (.pointer (some ⟨R, 0, none⟩)) false ty).run P w = .ok v w2 := by
            intro c' w2 v hc' hr
            simp only [Instr.next, Sem.run_bind, hg, Result.andThen_ok, hg2, hguard, Bool.false_eq_true, if_false]
            rw [hcands]
            simp only [List.size_toArray, hch, Result.andThen_ok, List.getElem?_toArray, hc']
            cases c' with
            | none => exact hr
            | some e => exact hr
          have hci : ∃ c', (candC ms since seen)[i]? = some c' := ⟨_, List.getElem?_eq_getElem hi⟩
          obtain ⟨c', hc'⟩ := hci
          have hia : i < (candAV es since seen).length := by rw [← hcl]; exact hi
          have hca : (candAV es since seen)[i]? = some (candAV es since seen)[i] := List.getElem?_eq_getElem hia
          have hk := k _ (List.getElem_mem hia)
          have hrel := hcr i _ c' hca hc'
          generalize (candAV es since seen)[i] = c at *
          cases c with
          | none =>
            cases c' with
            | some m => exact hrel.elim
            | none =>
              have run' := run none w1 (.tuple #[.bool false]) hc' rfl
              refine wp_value0 (by rw [hop]; simp only [Sem.run_bind, run', Result.andThen_ok, Sem.run_pure]; rfl) ?_
              exact ⟨_, _, hk, _, _, h'.set o.dst (.of (.tup [.bool false] [.bool false] rfl (VRels.cons (.bool _) (.nil G)).2)) (by simp)⟩
          | some e =>
            cases c' with
            | none => exact hrel.elim
            | some me =>
              obtain ⟨v1, v2, v3⟩ := hrel
              have hhR : w1.heap[R]? = some (.mapIter (some M) since seen.toArray last) := by rw [hh1]; exact hh
              obtain ⟨hi', hn'⟩ := h'.inv.setObj r R _ (.iter (some m) since (seen ++ [e.2.2]) clock) (.mapIter (some M) since (seen.toArray.push me.born) clock) hr hR (by simp) (by simp) (fun c t f q => by rw [hhR] at q; cases q)
                (fun w' hw' => ⟨R, hR, some M, by rw [hw', v3]; simp, M, hM, rfl⟩)
              have run' := run (some me) _ (.tuple #[.bool true, me.key, me.val]) hc' (by simp only [Sem.run_bind, run_setObj hhR (by simp), Result.andThen_ok, Sem.run_pure]; rfl)
              refine wp_value0 (by rw [hop]; simp only [Sem.run_bind, run', Result.andThen_ok, Sem.run_pure]; rfl) ?_
              exact ⟨_, _, hk, _, _, (h'.step hn' hi').set o.dst (.of (.tup [.bool true, e.1, e.2.1] [.bool true, me.key, me.val] rfl (VRels.cons (.bool _) (.cons v1 (.cons v2 (.nil G)))).2)) (by simp)⟩
        · exact k.elim
      · exact k.elim
  · exact k.elim

theorem entry_sound (h : Rel W0 G0 w0 N G L st H ca w) {x : Operand} {x' : Opd} (hx : cOpd N x = some x') {r : AV} (hr : entryAV H (st.ev x') = some r) : Gives P G L st w (Instr.entry (ca.eval x)) r := by
  have h1 := h.opd hx
  generalize hvx : ca.eval x = vx at *
  generalize st.ev x' = a at *
  unfold entryAV at hr
  split at hr
  · rename_i i
    have h2 := h1.rel (by simp)
    cases h2 with
    | itr _ R hR =>
      split at hr
      · rename_i m since seen stepped hi
        obtain ⟨R', hR', mB, hh, M, hM, hmB⟩ := h.inv.obj i _ hi
        rw [hR] at hR'; cases hR'
        subst hmB
        split at hr
        · rename_i es clock stamp hm hlast
          obtain ⟨M', ms, hM', hhm, her⟩ := ERel.of_obj (h.inv.obj m _ hm)
          rw [hM] at hM'; cases hM'
          split at hr
          · rename_i hcl
            obtain ⟨e, he, rfl⟩ := Option.map_eq_some_iff.1 hr
            have hg : (getObj R).run P w = .ok (.mapIter (some M) since seen.toArray stepped) w := by simp [getObj, Sem.run, hh]
            have hg2 : (getObj M).run P w = .ok (.map ms.toArray clock) w := by simp [getObj, Sem.run, hhm]
            have hf : ∀ {es : List Ent} {ms : List MapEntry}, ERel G es ms → es.find? (fun e => e.2.2 == stamp) = some e → ∃ me, ms.find? (fun e => e.born == stamp) = some me ∧ VRel G e.1 me.key ∧ VRel G e.2.1 me.val := by
              intro es
              induction es with
              | nil => intro ms _ h; simp at h
              | cons e0 es ih =>
                intro ms hr h
                cases ms with
                | nil => simp [ERel] at hr
                | cons m0 ms =>
                  obtain ⟨⟨q1, q2, q3⟩, q4⟩ := hr.cons
                  simp only [List.find?_cons] at h ⊢
                  rw [← q3]
                  split at h
                  · rename_i hb
                    cases h
                    exact ⟨m0, by simp [hb], q1, q2⟩
                  · rename_i hb
                    obtain ⟨me, z1, z2⟩ := ih q4 h
                    exact ⟨me, by simp [hb, z1], z2⟩
            obtain ⟨me, hme, v1, v2⟩ := hf her he
            refine .rel (v := .tuple #[me.key, me.val]) ?_ (.tup [e.1, e.2.1] [me.key, me.val] rfl (VRels.cons v1 (.cons v2 (.nil G))).2)
            have hb : seen.toArray.back? = some stamp := by rw [List.back?_toArray]; exact hlast
            simp only [Instr.entry, Sem.run_bind, hg, Result.andThen_ok, hb, hg2]
            simp [hcl, hme]
          · cases hr
        · cases hr
      · cases hr
  · cases hr

theorem lenM_sound (h : Rel W0 G0 w0 N G L st H ca w) {t kt et : TypeId} (ht : P.underlying t = some (.map kt et)) {x : Operand} {x' : Opd} (hx : cOpd N x = some x') {ty : TypeId} {es : List Ent} (hes : mapOf H (st.ev x') = some es) :
    Gives P G L st w (Builtin.len_ #[t] ty #[ca.eval x]) (.int .i64 es.length) := by
  have h1 := h.opd hx
  generalize ca.eval x = vx at *
  generalize st.ev x' = a at *
  refine .rel ?_ (.int _ _)
  cases a <;> simp only [mapOf] at hes <;> try (cases hes; done)
  · split at hes
    · rename_i e0; cases e0; cases hes
      rw [h1.pl]
      simp [Builtin.len_, run_underlying ht, goInt]
    · rename_i e0; cases e0
    · cases hes
  · rename_i m
    split at hes
    · rename_i l c hm
      cases hes
      have h3 := h1.rel (by simp)
      cases h3 with
      | map _ B hB =>
        obtain ⟨B', ms, hB', hh, her⟩ := ERel.of_obj (h.inv.obj m _ hm)
        rw [hB] at hB'; cases hB'
        have hg : (getObj B).run P w = .ok (.map ms.toArray c) w := by simp [getObj, Sem.run, hh]
        simp [Builtin.len_, run_underlying ht, goInt, hg, her.1]
    · cases hes
end
end Go.Qa
/- The abstract machine: strings and bytes. -/
namespace Go.Qa
open Go Go.RowKit

def byteAV (b : UInt8) : AV := .int .u8 b.toNat
def byteOf : AV → Option UInt8
  | .int .u8 n => some (UInt8.ofNat n.toNat)
  | _ => none
/-- The elements of a slice of one-cell elements. -/
def elems1 (H : AHeap) : AV → Option (List AV)
  | .row _ _ sz es => if sz = 1 then some es else none
  | .pl (.slice none 0 _) => some []
  | .arr b start len sz => if sz = 1 then match H[b]? with
      | some (.cells cs) => if start + len ≤ cs.length then some ((cs.drop start).take len) else none
      | _ => none
    else none
  | _ => none
def b2sAV (H : AHeap) (x : AV) : Option AV := ((elems1 H x).bind fun es => es.mapM byteOf).map .str
def s2bAV (arr : Bool) (x : AV) (d : Option Nat) (K : AS → AHeap → Prop) (st : AS) (H : AHeap) : Prop :=
  match x with
  | .str s => if arr then K (st.set d (.arr H.length 0 s.length 1)) (H ++ [.cells (s.map byteAV)]) else K (st.set d (.row none false 1 (s.map byteAV))) H
  | _ => False

section
variable {W0 : World} {G0 : Ghost} {w0 : World} {N : Nat} {G G' : Ghost} {L : Nat → Option Nat} {st : AS} {H H' : AHeap} {ca : Act} {w w' : World} {P : Program} {o : Oper} {K : AS → AHeap → Prop} {Q : Exit → Act → World → Prop}

theorem freeze_new (w : World) (C : Array Value) (e : TypeId) : (w.alloc (.cells C e)).freeze ⟨w.heap.size, C.size, none⟩ 1 = w.alloc (.cells C e (C.size, C.size + 1)) := by
  unfold World.freeze
  rw [if_neg (by omega)]
  show ({ w with heap := _ } : World) = { w with heap := w.heap.push _ }
  congr 1
  show (w.heap.push _).modify w.heap.size _ = _
  apply Array.ext
  · simp
  · intro i h1 h2
    simp only [Array.getElem_modify, Array.getElem_push]
    by_cases q : i < w.heap.size
    · simp [q]; intro z; omega
    · have : i = w.heap.size := by simp at h1; omega
      subst this
      simp

theorem byteAVs_one (s : List UInt8) : ∀ c ∈ s.map byteAV, c.one = true := by
  intro c hc
  obtain ⟨b, _, rfl⟩ := List.mem_map.1 hc
  rfl
theorem byteAVs_rel (s : List UInt8) : VRels G (s.map byteAV) (s.map fun b => Value.int .u8 b.toNat) := by
  refine ⟨by simp, fun j hj => ?_⟩
  simp at hj
  simp [List.getD_eq_getElem?_getD, hj, byteAV]
  exact .int _ _

theorem s2b_sound (h : Rel W0 G0 w0 N G L st H ca w) {s d e : TypeId} {u : TypeDesc} (hs : P.underlying s = some u) (hd : P.underlying d = some (.slice e)) (he : P.underlying e = some (.int .u8)) {x : Operand} {x' : Opd} (hx : cOpd N x = some x')
    (hop : execOp ca.eval o = (do pure (.value (← convert s d (ca.eval x))))) {arr : Bool} (k : s2bAV arr (st.ev x') o.dst K st H) : o.wp P ca w (Post W0 G0 w0 N K) Q := by
  have h1 := h.opd hx
  unfold s2bAV at k
  split at k
  · rename_i l e1
    rw [e1] at h1
    obtain ⟨e2, hlen⟩ := h1.str
    have run := Lib.run_convert_string_bytes (P := P) w s d e (bs l) hs hd he
    rw [bs_size] at run
    have hcap := grownCap_bound w l.length 0 e (by unfold maxLen at hlen; omega)
    have hcells : Lib.bytesCells w e (bs l) = ((l.map fun (b : UInt8) => Value.int .u8 b.toNat) ++ List.replicate (grownCap w l.length 0 e - l.length) (Value.int .u8 0)).toArray := by
      apply Array.ext'
      simp [Lib.bytesCells, bs, ByteArray.size]
    have hsz : (Lib.bytesCells w e (bs l)).size = grownCap w l.length 0 e := by
      rw [hcells]; simp; omega
    have hw : Lib.bytesWorld w e (bs l) = w.drew.alloc (.cells (Lib.bytesCells w e (bs l)) e ((Lib.bytesCells w e (bs l)).size, (Lib.bytesCells w e (bs l)).size + 1)) := by
      unfold Lib.bytesWorld
      exact freeze_new w.drew _ _
    rw [hw] at run
    have hd' := h.drew
    cases arr with
    | false =>
      simp only [Bool.false_eq_true, if_false] at k
      have hi := hd'.inv.addR (Lib.bytesCells w e (bs l)) e ((Lib.bytesCells w e (bs l)).size, (Lib.bytesCells w e (bs l)).size + 1) l.length 0 (by omega) false (by simp)
      have hn := hd'.inv.addR_next (.cells (Lib.bytesCells w e (bs l)) e ((Lib.bytesCells w e (bs l)).size, (Lib.bytesCells w e (bs l)).size + 1)) (Lib.bytesCells w e (bs l)).size (fun o => if o < l.length then (Lib.bytesCells w e (bs l))[o]? else none) 0 none
      simp only [Bool.false_eq_true, if_false] at hi
      refine wp_value0 (by rw [hop, e2]; simp only [Sem.run_bind, run, Result.andThen_ok, Sem.run_pure]; rfl) ?_
      refine ⟨_, _, k, _, _, (hd'.step hn hi).set o.dst (.of ?_) (by simp)⟩
      have hrow := row_of_imm (G := G.addR w.drew.heap.size (Lib.bytesCells w e (bs l)).size (fun o => if o < l.length then (Lib.bytesCells w e (bs l))[o]? else none) H.length 0 none) (own := none) (full := false) (esz := 1) (es := l.map byteAV) (B := w.drew.heap.size) (o := 0) (cap := grownCap w l.length 0 e)
        (us := l.map fun b => Value.int .u8 b.toNat) (fun x hx => isSize_one (byteAVs_one l x hx)) (by rw [flat_one (byteAVs_one l)]; exact byteAVs_rel l) (fun q u hq => by
          have hlt := (List.getElem?_eq_some_iff.1 hq).1
          simp at hlt
          simp only [Ghost.addR, if_true, Nat.zero_add]
          rw [if_pos hlt, hcells, List.getElem?_toArray, List.getElem?_append_left (by simpa using hlt)]
          exact hq) (by simpa using hcap.1) hcap.2 (by simp) (by simp)
      simpa using hrow
    | true =>
      simp only [if_true] at k
      obtain ⟨G', hn, hi, hb, hsz'⟩ := hd'.inv.newBoxRoom (l.map byteAV) (Lib.bytesCells w e (bs l)) e ((Lib.bytesCells w e (bs l)).size, (Lib.bytesCells w e (bs l)).size + 1) (fun o ho q => by simp at q; omega) (by simp; omega) (fun j hj => by
          simp at hj
          rw [hcells, List.toList_toArray]
          have := (byteAVs_rel (G := G) l).2 j (by simpa using hj)
          rw [List.getD_eq_getElem?_getD (l := _ ++ _), List.getElem?_append_left (by simpa using hj), ← List.getD_eq_getElem?_getD]
          exact this) (byteAVs_one l)
      refine wp_value0 (by rw [hop, e2]; simp only [Sem.run_bind, run, Result.andThen_ok, Sem.run_pure]; rfl) ?_
      refine ⟨_, _, k, _, _, (hd'.step hn hi).set o.dst (.of ?_) (by simp)⟩
      have := VRel.arr (G := G') H.length 0 l.length 1 w.heap.size (grownCap w l.length 0 e) _ hb hcap.1 hcap.2 hsz' (by rw [hsz]; omega)
      simpa using this
  · exact k.elim

theorem toBytes_get : ∀ {es : List AV} {l : List UInt8}, es.mapM byteOf = some l → ∃ ns : List Int, es = ns.map (AV.int .u8) ∧ l = ns.map fun n => UInt8.ofNat n.toNat
  | [], l, h => by simp at h; subst h; exact ⟨[], rfl, rfl⟩
  | e :: es, l, h => by
    simp only [List.mapM_cons, Option.bind_eq_bind, Option.bind_eq_some_iff, Option.pure_def, Option.some.injEq] at h
    obtain ⟨b, hb, l', hl, rfl⟩ := h
    obtain ⟨ns, rfl, rfl⟩ := toBytes_get hl
    unfold byteOf at hb
    split at hb
    · rename_i n
      cases hb
      exact ⟨n :: ns, rfl, rfl⟩
    · cases hb
theorem ints_vals {ns : List Int} {us : List Value} (h : VRels G (ns.map (AV.int .u8)) us) : us = ns.map (Value.int .u8) := by
  induction ns generalizing us with
  | nil => exact h.eq_nil
  | cons n ns ih =>
    obtain ⟨v, vs', rfl, h1, h2⟩ := h.head
    cases h1
    rw [ih h2]; rfl

theorem b2s_sound (h : Rel W0 G0 w0 N G L st H ca w) {s d e : TypeId} (hs : P.underlying s = some (.slice e)) (he : P.underlying e = some (.int .u8)) (hd : P.underlying d = some .string) {x : Operand} {x' : Opd} (hx : cOpd N x = some x')
    {r : AV} (hr : b2sAV H (st.ev x') = some r) : Gives P G L st w (convert s d (ca.eval x)) r := by
  have h1 := h.opd hx
  simp only [b2sAV, Option.map_eq_some_iff, Option.bind_eq_some_iff] at hr
  obtain ⟨l, ⟨es, hes, hl⟩, rfl⟩ := hr
  obtain ⟨ns, rfl, rfl⟩ := toBytes_get hl
  -- the cells
  have key : (∃ cap, ca.eval x = .slice none 0 cap ∧ ns = []) ∨ ∃ a cap, ca.eval x = .slice (some a) ns.length cap ∧ cap ≤ maxLen ∧ ns.length ≤ cap ∧ ∀ j v, (ns.map (Value.int .u8))[j]? = some v → w.cell? (a.add j) = some v := by
    generalize ca.eval x = vx at *
    generalize st.ev x' = a at *
    unfold elems1 at hes
    split at hes
    · rename_i own full sz es0
      split at hes
      · rename_i hsz
        cases hes
        subst hsz
        have hr := h1.rel (by simp)
        obtain ⟨a, cap, rfl⟩ : ∃ a cap, vx = .slice (some a) (ns.map (AV.int .u8)).length cap := by cases hr; exact ⟨_, _, rfl⟩
        obtain ⟨_, hsp, us, hus, him⟩ := row_cells hr
        have hcap : cap ≤ maxLen ∧ (ns.map (AV.int .u8)).length ≤ cap := by cases hr; exact ⟨by assumption, by assumption⟩
        rw [flat_one (by intro c hc; obtain ⟨n, _, rfl⟩ := List.mem_map.1 hc; rfl)] at hus
        have := ints_vals hus
        subst this
        simp at hcap hsp
        refine .inr ⟨a, cap, by simp, hcap.1, hcap.2, fun j v hj => ?_⟩
        have hlt := (List.getElem?_eq_some_iff.1 hj).1
        simp at hlt
        have e3 : a = ⟨a.block, a.off, none⟩ := by
          have := hsp (by omega)
          cases a; simp_all
        rw [e3, add_plain]
        exact (h.inv.imm _ _ _ (him j v hj)).2
      · cases hes
    · rename_i c
      have hn := Option.some.inj hes
      refine .inl ⟨c, h1.pl, ?_⟩
      simpa using hn.symm
    · rename_i b start len sz
      split at hes
      · rename_i hsz
        subst hsz
        split at hes
        · rename_i cs hb
          split at hes
          · rename_i hle
            have hes' := Option.some.inj hes
            have hr := h1.rel (by simp)
            cases hr with
            | arr _ _ _ _ B cap z hB hc hx' hs' hz =>
              obtain ⟨B', vs, ty, fz, hB', hh, hsz', hfz, hl', hcv⟩ := h.inv.obj b _ hb
              rw [hB] at hB'; cases hB'
              have hlen : ns.length = len := by have := congrArg List.length hes'; simp at this; omega
              have hrels : VRels G (ns.map (AV.int .u8)) ((vs.toList.drop start).take len) := by
                rw [← hes']
                refine ⟨by simp; omega, fun j hj => ?_⟩
                simp at hj
                rw [getD_take _ _ _ _ (by omega), getD_take _ _ _ _ (by omega), getD_drop, getD_drop]
                exact (hcv _ (by omega)).2
              have := ints_vals hrels
              refine .inr ⟨_, cap, by rw [hlen], hx', by omega, fun j v hj => ?_⟩
              rw [← this] at hj
              have hlt := (List.getElem?_eq_some_iff.1 hj).1
              simp at hlt
              rw [List.getElem?_take_of_lt (by omega), List.getElem?_drop] at hj
              rw [add_plain]
              simp only [World.cell?, hh, Nat.mul_one]
              simpa using hj
          · cases hes
        · cases hes
      · cases hes
    · cases hes
  rcases key with ⟨cap, e1, rfl⟩ | ⟨a, cap, e1, hcm, hle, hcells⟩
  · rw [e1]
    refine .rel (v := .string (bs [])) ?_ (.str [] (by simp))
    rw [run_convert_bytes_string w s d e none 0 cap hs he hd]
    rfl
  · rw [e1]
    refine .rel (v := .string (bs (ns.map fun n => UInt8.ofNat n.toNat))) ?_ (.str _ (by simp; omega))
    rw [run_convert_bytes_string w s d e (some a) ns.length cap hs he hd]
    have hload := run_loadCells_list (P := P) w a (ns.map (Value.int .u8)) hcells
    rw [List.length_map] at hload
    rw [run_bytesToString w a ns.length cap ns hload, foldl_push_bytes]
    congr 2
    apply ByteArray.ext
    simp [bs]
end
end Go.Qa
