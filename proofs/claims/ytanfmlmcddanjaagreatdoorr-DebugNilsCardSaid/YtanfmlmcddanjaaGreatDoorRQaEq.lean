/- The abstract machine: == and != by their types. -/
import Derived.Test.YtanfmlmcddanjaaGreatDoorRQaAppend
import Derived.Laws.StructEq
set_option linter.all false
namespace Go.Qa
open Go Go.RowKit

def nilP : AV → Bool | .pl (.pointer none) => true | _ => false
def adP : AV → Bool | .ref .. | .eref .. | .lref .. => true | _ => false
def nilS : AV → Bool | .pl (.slice none _ _) => true | _ => false
def adS : AV → Bool | .row .. | .arr .. => true | _ => false
def nilM : AV → Bool | .pl (.map none) => true | _ => false
def adM : AV → Bool | .map .. => true | _ => false
def nilF : AV → Bool | .pl .nilFunc => true | _ => false
def adF : AV → Bool | .fn .. => true | _ => false
def nilI : AV → Bool | .pl .nilIface => true | _ => false
def adI : AV → Bool | .iface .. => true | _ => false
def nilEq (nl ad : AV → Bool) (x y : AV) : Option Bool :=
  if nl x then (if nl y then some true else if ad y then some false else none) else if nl y then (if ad x then some false else none) else none
def scalEq : SK → AV → AV → Option Bool
  | .i, .int k a, .int k' b => if k = k' then some (a == b) else none
  | .b, .bool a, .bool b => some (a == b)
  | .s, .str a, .str b => some (a == b)
  | _, _, _ => none
def eqCells : List SK → List AV → List AV → Option Bool
  | [], [], [] => some true
  | k :: ks, c :: cs, d :: ds => match scalEq k c d with
    | some true => eqCells ks cs ds
    | some false => some false
    | none => none
  | _, _, _ => none
def eqBools : AV → AV → Option Bool
  | .bool a, .bool b => some (a == b)
  | _, _ => none
def eqAggs (ks : List SK) : AV → AV → Option Bool
  | .agg cs, .agg ds => if cs.length = ks.length ∧ ds.length = ks.length then eqCells ks cs ds else none
  | _, _ => none
def EK.eq (k : EK) (x y : AV) : Option Bool :=
  match k with
  | .bool => eqBools x y
  | .ptr => nilEq nilP adP x y
  | .sl => nilEq nilS adS x y
  | .mp => nilEq nilM adM x y
  | .fn => nilEq nilF adF x y
  | .ifc => nilEq nilI adI x y
  | .st ks => eqAggs ks x y
/-- Which kind of comparison a type has. -/
def skOf : TypeDesc → Option SK
  | .bool => some .b
  | .string => some .s
  | .int _ => some .i
  | _ => none
def flatFields (P : Program) : Nat → List Field → Option (List SK)
  | _, [] => some []
  | o, f :: fs => if f.name = "_" ∨ f.offset ≠ o then none else (P.underlying f.type).bind fun d => (skOf d).bind fun k => (flatFields P (o + 1) fs).map fun ks => k :: ks
def ekOf (P : Program) (t : TypeId) (c : Bool) : Option EK :=
  match P.underlying t with
  | some .bool => some .bool
  | some (.pointer _) => some .ptr
  | some (.slice _) => some .sl
  | some (.map _ _) => some .mp
  | some (.func _ _ _) => some .fn
  | some (.interface _) => if c then some .ifc else none
  | some (.struct fs) => if P.stoodInHeld t || P.eqGuardType P.depth t then none else (flatFields P 0 fs.toList).map .st
  | _ => none

section
variable {W0 : World} {G0 : Ghost} {w0 : World} {N : Nat} {G G' : Ghost} {L : Nat → Option Nat} {st : AS} {H H' : AHeap} {ca : Act} {w w' : World} {P : Program}

def cst : Operand → Bool
  | .const _ => true
  | _ => false
theorem scal_run {d : Nat} {t : TypeId} {de : TypeDesc} {k : SK} {x y : AV} {u v : Value} {b : Bool} (ht : P.underlying t = some de) (hk : skOf de = some k) (hx : VRel G x u) (hy : VRel G y v) (h : scalEq k x y = some b) :
    (Op.equalIn (d + 1) t u v).run P w = .ok b w := by
  cases de <;> simp [skOf] at hk <;> subst hk <;> cases hx <;> cases hy <;> simp [scalEq] at h
  · subst h
    exact run_equalIn_bool w d t _ _ ht
  · obtain ⟨rfl, rfl⟩ := h
    exact run_equalIn_int w d t _ _ _ _ ht
  · subst h
    rename_i s _ s' _
    have := run_equalIn_string (P := P) w d t (bs s) (bs s') ht
    rw [bs_toList, bs_toList] at this
    exact this

theorem cell_part {t : TypeId} {de : TypeDesc} {k : SK} (ht : P.underlying t = some de) (hk : skOf de = some k) (cs : List Value) (o : Nat) (h : o < cs.length) : (part t cs.toArray o).run P w = .ok (cs.getD o undef) w := by
  have hagg : (isAgg t).run P w = .ok false w := by
    unfold isAgg
    rw [Sem.run_bind, run_underlying ht w]
    cases de <;> simp_all [skOf]
  have e : cs.toArray[o]? = some (cs.getD o undef) := by
    rw [List.getD_eq_getElem?_getD]; simp [h]
  simp [part, hagg, e]

theorem fields_run (d : Nat) (vs us : List Value) : ∀ (fs : List Field) (o : Nat) (ks : List SK) {cs ds : List AV} {b : Bool}, flatFields P o fs = some ks → o + fs.length ≤ vs.length → o + fs.length ≤ us.length →
    (∀ j, j < cs.length → VRel G (cs.getD j .any) (vs.getD (o + j) undef)) → (∀ j, j < ds.length → VRel G (ds.getD j .any) (us.getD (o + j) undef)) → eqCells ks cs ds = some b →
    (Op.eqFields (d + 1) vs.toArray us.toArray fs).run P w = .ok b w
  | [], o, ks, cs, ds, b, hf, h1, h2, hx, hy, h => by
    simp only [flatFields, Option.some.injEq] at hf
    subst hf
    cases cs <;> cases ds <;> simp [eqCells] at h
    subst h
    rfl
  | f :: fs, o, ks, cs, ds, b, hf, h1, h2, hx, hy, h => by
    simp only [flatFields] at hf
    split at hf
    · cases hf
    · rename_i hn
      simp only [Option.bind_eq_some_iff, Option.map_eq_some_iff] at hf
      obtain ⟨de, hde, k, hk, ks', hks, rfl⟩ := hf
      have hname : f.name ≠ "_" := fun q => hn (.inl q)
      have hoff : f.offset = o := Classical.byContradiction fun q => hn (.inr q)
      simp only [List.length_cons] at h1 h2
      rcases cs with _ | ⟨c, cs⟩
      · simp [eqCells] at h
      rcases ds with _ | ⟨e, ds⟩
      · simp [eqCells] at h
      simp only [eqCells] at h
      have hc : VRel G c (vs.getD o undef) := by simpa using hx 0 (by simp)
      have he : VRel G e (us.getD o undef) := by simpa using hy 0 (by simp)
      simp only [Op.eqFields, if_pos hname, Sem.run_bind, hoff, cell_part hde hk vs o (by omega), cell_part hde hk us o (by omega), Result.andThen_ok]
      split at h
      · rename_i hs
        rw [scal_run hde hk hc he hs]
        simp only [Result.andThen_ok, Bool.not_true, Bool.false_eq_true, if_false]
        refine fields_run d vs us fs (o + 1) ks' hks (by omega) (by omega) (fun j hj => ?_) (fun j hj => ?_) h
        · have := hx (j + 1) (by simpa using hj)
          simpa [Nat.add_assoc, Nat.add_comm 1 j] using this
        · have := hy (j + 1) (by simpa using hj)
          simpa [Nat.add_assoc, Nat.add_comm 1 j] using this
      · rename_i hs
        cases h
        rw [scal_run hde hk hc he hs]
        rfl
      · cases h

theorem eqIn_nn (d : Nat) {t e : TypeId} (ht : P.underlying t = some (.pointer e)) (w : World) : (Op.equalIn (d + 1) t (.pointer none) (.pointer none)).run P w = .ok true w := by
  unfold Op.equalIn; rw [Sem.run_bind, run_underlying ht]; rfl
theorem eqIn_na (d : Nat) {t e : TypeId} (ht : P.underlying t = some (.pointer e)) (a : Addr) (w : World) : (Op.equalIn (d + 1) t (.pointer none) (.pointer (some a))).run P w = .ok false w := by
  unfold Op.equalIn; rw [Sem.run_bind, run_underlying ht]; rfl
theorem eqIn_an (d : Nat) {t e : TypeId} (ht : P.underlying t = some (.pointer e)) (a : Addr) (w : World) : (Op.equalIn (d + 1) t (.pointer (some a)) (.pointer none)).run P w = .ok false w := by
  unfold Op.equalIn; rw [Sem.run_bind, run_underlying ht]; rfl
theorem eqIn_sn (d : Nat) {t e : TypeId} (ht : P.underlying t = some (.slice e)) (n c : Nat) (b : Option Addr) (m k : Nat) (w : World) : (Op.equalIn (d + 1) t (.slice none n c) (.slice b m k)).run P w = .ok b.isNone w := by
  unfold Op.equalIn; rw [Sem.run_bind, run_underlying ht]; rfl
theorem eqIn_sa (d : Nat) {t e : TypeId} (ht : P.underlying t = some (.slice e)) (n c : Nat) (b : Addr) (m k : Nat) (w : World) : (Op.equalIn (d + 1) t (.slice (some b) m k) (.slice none n c)).run P w = .ok false w := by
  unfold Op.equalIn; rw [Sem.run_bind, run_underlying ht]; rfl
theorem eqIn_mn (d : Nat) {t e f : TypeId} (ht : P.underlying t = some (.map e f)) (b : Option Nat) (w : World) : (Op.equalIn (d + 1) t (.map none) (.map b)).run P w = .ok b.isNone w := by
  unfold Op.equalIn; rw [Sem.run_bind, run_underlying ht]; rfl
theorem eqIn_ma (d : Nat) {t e f : TypeId} (ht : P.underlying t = some (.map e f)) (b : Nat) (w : World) : (Op.equalIn (d + 1) t (.map (some b)) (.map none)).run P w = .ok false w := by
  unfold Op.equalIn; rw [Sem.run_bind, run_underlying ht]; rfl
theorem eqIn_fn (d : Nat) {t : TypeId} {e f : Array TypeId} {g : Bool} (ht : P.underlying t = some (.func e f g)) (w : World) : (Op.equalIn (d + 1) t .nilFunc .nilFunc).run P w = .ok true w := by
  unfold Op.equalIn; rw [Sem.run_bind, run_underlying ht]; rfl
theorem eqIn_fa (d : Nat) {t : TypeId} {e f : Array TypeId} {g : Bool} (ht : P.underlying t = some (.func e f g)) (a : Fn) (b c : Array Value) (w : World) : (Op.equalIn (d + 1) t .nilFunc (.func a b c)).run P w = .ok false w := by
  unfold Op.equalIn; rw [Sem.run_bind, run_underlying ht]; rfl
theorem eqIn_fb (d : Nat) {t : TypeId} {e f : Array TypeId} {g : Bool} (ht : P.underlying t = some (.func e f g)) (a : Fn) (b c : Array Value) (w : World) : (Op.equalIn (d + 1) t (.func a b c) .nilFunc).run P w = .ok false w := by
  unfold Op.equalIn; rw [Sem.run_bind, run_underlying ht]; rfl
theorem eqIn_in (d : Nat) {t : TypeId} {e : Array (String × TypeId)} (ht : P.underlying t = some (.interface e)) (w : World) : (Op.equalIn (d + 1) t .nilIface .nilIface).run P w = .ok true w := by
  unfold Op.equalIn; rw [Sem.run_bind, run_underlying ht]; rfl
theorem eqIn_ia (d : Nat) {t : TypeId} {e : Array (String × TypeId)} (ht : P.underlying t = some (.interface e)) (a : TypeId) (b : Value) (w : World) : (Op.equalIn (d + 1) t .nilIface (.iface a b)).run P w = .ok false w := by
  unfold Op.equalIn; rw [Sem.run_bind, run_underlying ht]; rfl
theorem eqIn_ib (d : Nat) {t : TypeId} {e : Array (String × TypeId)} (ht : P.underlying t = some (.interface e)) (a : TypeId) (b : Value) (w : World) : (Op.equalIn (d + 1) t (.iface a b) .nilIface).run P w = .ok false w := by
  unfold Op.equalIn; rw [Sem.run_bind, run_underlying ht]; rfl

/-- What a comparison comes to. -/
theorem eq_run (d : Nat) {t : TypeId} {c : Bool} {k : EK} {x y : AV} {u v : Value} {b : Bool} (hk : ekOf P t c = some k) (hx : SRel G L x u) (hy : SRel G L y v) (hb : k.eq x y = some b) :
    (Op.equalIn (d + 2) t u v).run P w = .ok b w := by
  unfold ekOf at hk
  split at hk
  · rename_i ht
    cases hk
    simp only [EK.eq] at hb
    cases x <;> cases y <;> simp [eqBools] at hb
    subst hb
    rw [hx.bool, hy.bool]
    exact run_equalIn_bool w (d + 1) t _ _ ht
  · rename_i e ht
    cases hk
    simp only [EK.eq, nilEq] at hb
    have nx : nilP x = true → u = .pointer none := fun q => by
      cases x <;> simp [nilP] at q
      split at q <;> simp_all
      exact hx.pl
    have ny : nilP y = true → v = .pointer none := fun q => by
      cases y <;> simp [nilP] at q
      split at q <;> simp_all
      exact hy.pl
    have ax : adP x = true → ∃ a, u = .pointer (some a) := fun q => by
      rcases hx with ⟨_, _, _, rfl, _, rfl⟩ | hx
      · exact ⟨_, rfl⟩
      · cases hx <;> simp [adP] at q <;> exact ⟨_, rfl⟩
    have ay : adP y = true → ∃ a, v = .pointer (some a) := fun q => by
      rcases hy with ⟨_, _, _, rfl, _, rfl⟩ | hy
      · exact ⟨_, rfl⟩
      · cases hy <;> simp [adP] at q <;> exact ⟨_, rfl⟩
    split at hb
    · rename_i q
      rw [nx q]
      split at hb
      · rename_i q2; cases hb; rw [ny q2]; first | exact eqIn_nn _ ht w | exact eqIn_na _ ht _ w | exact eqIn_an _ ht _ w | exact eqIn_sn _ ht _ _ _ _ _ w | exact eqIn_sa _ ht _ _ _ _ _ w | exact eqIn_mn _ ht _ w | exact eqIn_ma _ ht _ w | exact eqIn_fn _ ht w | exact eqIn_fa _ ht _ _ _ w | exact eqIn_fb _ ht _ _ _ w | exact eqIn_in _ ht w | exact eqIn_ia _ ht _ _ w | exact eqIn_ib _ ht _ _ w
      · split at hb
        · rename_i q2; cases hb; obtain ⟨a, rfl⟩ := ay q2; first | exact eqIn_nn _ ht w | exact eqIn_na _ ht _ w | exact eqIn_an _ ht _ w | exact eqIn_sn _ ht _ _ _ _ _ w | exact eqIn_sa _ ht _ _ _ _ _ w | exact eqIn_mn _ ht _ w | exact eqIn_ma _ ht _ w | exact eqIn_fn _ ht w | exact eqIn_fa _ ht _ _ _ w | exact eqIn_fb _ ht _ _ _ w | exact eqIn_in _ ht w | exact eqIn_ia _ ht _ _ w | exact eqIn_ib _ ht _ _ w
        · cases hb
    · split at hb
      · rename_i q2
        rw [ny q2]
        split at hb
        · rename_i q3; cases hb; obtain ⟨a, rfl⟩ := ax q3; first | exact eqIn_nn _ ht w | exact eqIn_na _ ht _ w | exact eqIn_an _ ht _ w | exact eqIn_sn _ ht _ _ _ _ _ w | exact eqIn_sa _ ht _ _ _ _ _ w | exact eqIn_mn _ ht _ w | exact eqIn_ma _ ht _ w | exact eqIn_fn _ ht w | exact eqIn_fa _ ht _ _ _ w | exact eqIn_fb _ ht _ _ _ w | exact eqIn_in _ ht w | exact eqIn_ia _ ht _ _ w | exact eqIn_ib _ ht _ _ w
        · cases hb
      · cases hb
  · rename_i e ht
    cases hk
    simp only [EK.eq, nilEq] at hb
    have nx : nilS x = true → ∃ n c, u = .slice none n c := fun q => by
      cases x <;> simp [nilS] at q
      split at q <;> simp_all
      exact ⟨_, _, hx.pl⟩
    have ny : nilS y = true → ∃ n c, v = .slice none n c := fun q => by
      cases y <;> simp [nilS] at q
      split at q <;> simp_all
      exact ⟨_, _, hy.pl⟩
    have ax : adS x = true → ∃ a n c, u = .slice (some a) n c := fun q => by
      rcases hx with ⟨_, _, _, rfl, _, rfl⟩ | hx
      · cases q
      · cases hx <;> simp [adS] at q <;> exact ⟨_, _, _, rfl⟩
    have ay : adS y = true → ∃ a n c, v = .slice (some a) n c := fun q => by
      rcases hy with ⟨_, _, _, rfl, _, rfl⟩ | hy
      · cases q
      · cases hy <;> simp [adS] at q <;> exact ⟨_, _, _, rfl⟩
    split at hb
    · rename_i q
      obtain ⟨_, _, rfl⟩ := nx q
      split at hb
      · rename_i q2; cases hb; obtain ⟨_, _, rfl⟩ := ny q2; first | exact eqIn_nn _ ht w | exact eqIn_na _ ht _ w | exact eqIn_an _ ht _ w | exact eqIn_sn _ ht _ _ _ _ _ w | exact eqIn_sa _ ht _ _ _ _ _ w | exact eqIn_mn _ ht _ w | exact eqIn_ma _ ht _ w | exact eqIn_fn _ ht w | exact eqIn_fa _ ht _ _ _ w | exact eqIn_fb _ ht _ _ _ w | exact eqIn_in _ ht w | exact eqIn_ia _ ht _ _ w | exact eqIn_ib _ ht _ _ w
      · split at hb
        · rename_i q2; cases hb; obtain ⟨a, _, _, rfl⟩ := ay q2; first | exact eqIn_nn _ ht w | exact eqIn_na _ ht _ w | exact eqIn_an _ ht _ w | exact eqIn_sn _ ht _ _ _ _ _ w | exact eqIn_sa _ ht _ _ _ _ _ w | exact eqIn_mn _ ht _ w | exact eqIn_ma _ ht _ w | exact eqIn_fn _ ht w | exact eqIn_fa _ ht _ _ _ w | exact eqIn_fb _ ht _ _ _ w | exact eqIn_in _ ht w | exact eqIn_ia _ ht _ _ w | exact eqIn_ib _ ht _ _ w
        · cases hb
    · split at hb
      · rename_i q2
        obtain ⟨_, _, rfl⟩ := ny q2
        split at hb
        · rename_i q3; cases hb; obtain ⟨a, _, _, rfl⟩ := ax q3; first | exact eqIn_nn _ ht w | exact eqIn_na _ ht _ w | exact eqIn_an _ ht _ w | exact eqIn_sn _ ht _ _ _ _ _ w | exact eqIn_sa _ ht _ _ _ _ _ w | exact eqIn_mn _ ht _ w | exact eqIn_ma _ ht _ w | exact eqIn_fn _ ht w | exact eqIn_fa _ ht _ _ _ w | exact eqIn_fb _ ht _ _ _ w | exact eqIn_in _ ht w | exact eqIn_ia _ ht _ _ w | exact eqIn_ib _ ht _ _ w
        · cases hb
      · cases hb
  · rename_i e1 e2 ht
    cases hk
    simp only [EK.eq, nilEq] at hb
    have nx : nilM x = true → u = .map none := fun q => by
      cases x <;> simp [nilM] at q
      split at q <;> simp_all
      exact hx.pl
    have ny : nilM y = true → v = .map none := fun q => by
      cases y <;> simp [nilM] at q
      split at q <;> simp_all
      exact hy.pl
    have ax : adM x = true → ∃ a, u = .map (some a) := fun q => by
      rcases hx with ⟨_, _, _, rfl, _, rfl⟩ | hx
      · cases q
      · cases hx <;> simp [adM] at q <;> exact ⟨_, rfl⟩
    have ay : adM y = true → ∃ a, v = .map (some a) := fun q => by
      rcases hy with ⟨_, _, _, rfl, _, rfl⟩ | hy
      · cases q
      · cases hy <;> simp [adM] at q <;> exact ⟨_, rfl⟩
    split at hb
    · rename_i q
      rw [nx q]
      split at hb
      · rename_i q2; cases hb; rw [ny q2]; first | exact eqIn_nn _ ht w | exact eqIn_na _ ht _ w | exact eqIn_an _ ht _ w | exact eqIn_sn _ ht _ _ _ _ _ w | exact eqIn_sa _ ht _ _ _ _ _ w | exact eqIn_mn _ ht _ w | exact eqIn_ma _ ht _ w | exact eqIn_fn _ ht w | exact eqIn_fa _ ht _ _ _ w | exact eqIn_fb _ ht _ _ _ w | exact eqIn_in _ ht w | exact eqIn_ia _ ht _ _ w | exact eqIn_ib _ ht _ _ w
      · split at hb
        · rename_i q2; cases hb; obtain ⟨a, rfl⟩ := ay q2; first | exact eqIn_nn _ ht w | exact eqIn_na _ ht _ w | exact eqIn_an _ ht _ w | exact eqIn_sn _ ht _ _ _ _ _ w | exact eqIn_sa _ ht _ _ _ _ _ w | exact eqIn_mn _ ht _ w | exact eqIn_ma _ ht _ w | exact eqIn_fn _ ht w | exact eqIn_fa _ ht _ _ _ w | exact eqIn_fb _ ht _ _ _ w | exact eqIn_in _ ht w | exact eqIn_ia _ ht _ _ w | exact eqIn_ib _ ht _ _ w
        · cases hb
    · split at hb
      · rename_i q2
        rw [ny q2]
        split at hb
        · rename_i q3; cases hb; obtain ⟨a, rfl⟩ := ax q3; first | exact eqIn_nn _ ht w | exact eqIn_na _ ht _ w | exact eqIn_an _ ht _ w | exact eqIn_sn _ ht _ _ _ _ _ w | exact eqIn_sa _ ht _ _ _ _ _ w | exact eqIn_mn _ ht _ w | exact eqIn_ma _ ht _ w | exact eqIn_fn _ ht w | exact eqIn_fa _ ht _ _ _ w | exact eqIn_fb _ ht _ _ _ w | exact eqIn_in _ ht w | exact eqIn_ia _ ht _ _ w | exact eqIn_ib _ ht _ _ w
        · cases hb
      · cases hb
  · rename_i e1 e2 e3 ht
    cases hk
    simp only [EK.eq, nilEq] at hb
    have nx : nilF x = true → u = .nilFunc := fun q => by
      cases x <;> simp [nilF] at q
      split at q <;> simp_all
      exact hx.pl
    have ny : nilF y = true → v = .nilFunc := fun q => by
      cases y <;> simp [nilF] at q
      split at q <;> simp_all
      exact hy.pl
    have ax : adF x = true → ∃ a b c, u = .func a b c := fun q => by
      rcases hx with ⟨_, _, _, rfl, _, rfl⟩ | hx
      · cases q
      · cases hx <;> simp [adF] at q <;> exact ⟨_, _, _, rfl⟩
    have ay : adF y = true → ∃ a b c, v = .func a b c := fun q => by
      rcases hy with ⟨_, _, _, rfl, _, rfl⟩ | hy
      · cases q
      · cases hy <;> simp [adF] at q <;> exact ⟨_, _, _, rfl⟩
    split at hb
    · rename_i q
      rw [nx q]
      split at hb
      · rename_i q2; cases hb; rw [ny q2]; first | exact eqIn_nn _ ht w | exact eqIn_na _ ht _ w | exact eqIn_an _ ht _ w | exact eqIn_sn _ ht _ _ _ _ _ w | exact eqIn_sa _ ht _ _ _ _ _ w | exact eqIn_mn _ ht _ w | exact eqIn_ma _ ht _ w | exact eqIn_fn _ ht w | exact eqIn_fa _ ht _ _ _ w | exact eqIn_fb _ ht _ _ _ w | exact eqIn_in _ ht w | exact eqIn_ia _ ht _ _ w | exact eqIn_ib _ ht _ _ w
      · split at hb
        · rename_i q2; cases hb; obtain ⟨a, _, _, rfl⟩ := ay q2; first | exact eqIn_nn _ ht w | exact eqIn_na _ ht _ w | exact eqIn_an _ ht _ w | exact eqIn_sn _ ht _ _ _ _ _ w | exact eqIn_sa _ ht _ _ _ _ _ w | exact eqIn_mn _ ht _ w | exact eqIn_ma _ ht _ w | exact eqIn_fn _ ht w | exact eqIn_fa _ ht _ _ _ w | exact eqIn_fb _ ht _ _ _ w | exact eqIn_in _ ht w | exact eqIn_ia _ ht _ _ w | exact eqIn_ib _ ht _ _ w
        · cases hb
    · split at hb
      · rename_i q2
        rw [ny q2]
        split at hb
        · rename_i q3; cases hb; obtain ⟨a, _, _, rfl⟩ := ax q3; first | exact eqIn_nn _ ht w | exact eqIn_na _ ht _ w | exact eqIn_an _ ht _ w | exact eqIn_sn _ ht _ _ _ _ _ w | exact eqIn_sa _ ht _ _ _ _ _ w | exact eqIn_mn _ ht _ w | exact eqIn_ma _ ht _ w | exact eqIn_fn _ ht w | exact eqIn_fa _ ht _ _ _ w | exact eqIn_fb _ ht _ _ _ w | exact eqIn_in _ ht w | exact eqIn_ia _ ht _ _ w | exact eqIn_ib _ ht _ _ w
        · cases hb
      · cases hb
  · rename_i e1 ht
    split at hk
    · cases hk
      simp only [EK.eq, nilEq] at hb
      have nx : nilI x = true → u = .nilIface := fun q => by
        cases x <;> simp [nilI] at q
        split at q <;> simp_all
        exact hx.pl
      have ny : nilI y = true → v = .nilIface := fun q => by
        cases y <;> simp [nilI] at q
        split at q <;> simp_all
        exact hy.pl
      have ax : adI x = true → ∃ a b, u = .iface a b := fun q => by
        rcases hx with ⟨_, _, _, rfl, _, rfl⟩ | hx
        · cases q
        · cases hx <;> simp [adI] at q <;> exact ⟨_, _, rfl⟩
      have ay : adI y = true → ∃ a b, v = .iface a b := fun q => by
        rcases hy with ⟨_, _, _, rfl, _, rfl⟩ | hy
        · cases q
        · cases hy <;> simp [adI] at q <;> exact ⟨_, _, rfl⟩
      split at hb
      · rename_i q
        rw [nx q]
        split at hb
        · rename_i q2; cases hb; rw [ny q2]; first | exact eqIn_nn _ ht w | exact eqIn_na _ ht _ w | exact eqIn_an _ ht _ w | exact eqIn_sn _ ht _ _ _ _ _ w | exact eqIn_sa _ ht _ _ _ _ _ w | exact eqIn_mn _ ht _ w | exact eqIn_ma _ ht _ w | exact eqIn_fn _ ht w | exact eqIn_fa _ ht _ _ _ w | exact eqIn_fb _ ht _ _ _ w | exact eqIn_in _ ht w | exact eqIn_ia _ ht _ _ w | exact eqIn_ib _ ht _ _ w
        · split at hb
          · rename_i q2; cases hb; obtain ⟨a, _, rfl⟩ := ay q2; first | exact eqIn_nn _ ht w | exact eqIn_na _ ht _ w | exact eqIn_an _ ht _ w | exact eqIn_sn _ ht _ _ _ _ _ w | exact eqIn_sa _ ht _ _ _ _ _ w | exact eqIn_mn _ ht _ w | exact eqIn_ma _ ht _ w | exact eqIn_fn _ ht w | exact eqIn_fa _ ht _ _ _ w | exact eqIn_fb _ ht _ _ _ w | exact eqIn_in _ ht w | exact eqIn_ia _ ht _ _ w | exact eqIn_ib _ ht _ _ w
          · cases hb
      · split at hb
        · rename_i q2
          rw [ny q2]
          split at hb
          · rename_i q3; cases hb; obtain ⟨a, _, rfl⟩ := ax q3; first | exact eqIn_nn _ ht w | exact eqIn_na _ ht _ w | exact eqIn_an _ ht _ w | exact eqIn_sn _ ht _ _ _ _ _ w | exact eqIn_sa _ ht _ _ _ _ _ w | exact eqIn_mn _ ht _ w | exact eqIn_ma _ ht _ w | exact eqIn_fn _ ht w | exact eqIn_fa _ ht _ _ _ w | exact eqIn_fb _ ht _ _ _ w | exact eqIn_in _ ht w | exact eqIn_ia _ ht _ _ w | exact eqIn_ib _ ht _ _ w
          · cases hb
        · cases hb
    · cases hk
  · rename_i fs ht
    split at hk
    · cases hk
    · rename_i hn
      simp only [Bool.or_eq_true, not_or, Bool.not_eq_true] at hn
      simp only [Option.map_eq_some_iff] at hk
      obtain ⟨ks, hks, rfl⟩ := hk
      simp only [EK.eq] at hb
      cases x <;> cases y <;> simp [eqAggs] at hb
      rename_i cs ds
      obtain ⟨⟨l1, l2⟩, hb⟩ := hb
      have h1 := hx.rel (by simp)
      have h2 := hy.rel (by simp)
      cases h1 with
      | agg _ vs hl hv =>
        cases h2 with
        | agg _ us hl' hu =>
          have hlen : ∀ (fs : List Field) (o : Nat) (ks : List SK), flatFields P o fs = some ks → ks.length = fs.length := by
            intro fs
            induction fs with
            | nil => intro o ks h; simp [flatFields] at h; subst h; rfl
            | cons f fs ih =>
              intro o ks h
              simp only [flatFields] at h
              split at h
              · cases h
              · simp only [Option.bind_eq_some_iff, Option.map_eq_some_iff] at h
                obtain ⟨_, _, _, _, ks', h, rfl⟩ := h
                simp [ih _ _ h]
          have hfl := hlen _ _ _ hks
          have hff : P.fieldsOf t = fs := by simp [Program.fieldsOf, ht]
          rw [run_equalIn_struct w (d + 1) t vs.toArray us.toArray (by rw [hff]; exact ht) hn.1, hff]
          exact fields_run d vs us fs.toList 0 ks hks (by omega) (by omega) (by simpa using hv) (by simpa using hu) hb
  · cases hk

theorem run_equal (t : TypeId) (u v : Value) (w : World) : (Op.equal t u v).run P w = (Op.equalIn (9998 + 2) t u v).run P w := rfl

theorem guard_bool (op : BinOp) (t : TypeId) (x y : Operand) (a b : Bool) (w : World) : (eqGuard op t x y (.bool a) (.bool b)).run P w = .ok () w := by cases op <;> rfl
theorem guard_ptr (op : BinOp) (t : TypeId) (x y : Operand) (a b : Option Addr) (w : World) : (eqGuard op t x y (.pointer a) (.pointer b)).run P w = .ok () w := by cases op <;> rfl
theorem guard_sl (op : BinOp) (t : TypeId) (x y : Operand) (a b : Option Addr) (n m c k : Nat) (w : World) : (eqGuard op t x y (.slice a n c) (.slice b m k)).run P w = .ok () w := by cases op <;> rfl
theorem guard_map (op : BinOp) (t : TypeId) (x y : Operand) (a b : Option Nat) (w : World) : (eqGuard op t x y (.map a) (.map b)).run P w = .ok () w := by cases op <;> rfl
theorem guard_f1 (op : BinOp) (t : TypeId) (x y : Operand) (w : World) : (eqGuard op t x y .nilFunc .nilFunc).run P w = .ok () w := by cases op <;> rfl
theorem guard_f2 (op : BinOp) (t : TypeId) (x y : Operand) (a : Fn) (b c : Array Value) (w : World) : (eqGuard op t x y .nilFunc (.func a b c)).run P w = .ok () w := by cases op <;> rfl
theorem guard_f3 (op : BinOp) (t : TypeId) (x y : Operand) (a : Fn) (b c : Array Value) (w : World) : (eqGuard op t x y (.func a b c) .nilFunc).run P w = .ok () w := by cases op <;> rfl
theorem guard_i1 (op : BinOp) (t : TypeId) (x y : Operand) (h : (cst x || cst y) = true) (w : World) : (eqGuard op t x y .nilIface .nilIface).run P w = .ok () w := by
  unfold eqGuard
  cases x <;> cases y <;> simp [cst] at h <;> cases op <;> rfl
theorem guard_i2 (op : BinOp) (t : TypeId) (x y : Operand) (a : TypeId) (b : Value) (w : World) : (eqGuard op t x y .nilIface (.iface a b)).run P w = .ok () w := by cases op <;> rfl
theorem guard_i3 (op : BinOp) (t : TypeId) (x y : Operand) (a : TypeId) (b : Value) (w : World) : (eqGuard op t x y (.iface a b) .nilIface).run P w = .ok () w := by cases op <;> rfl

theorem ek_shape {t : TypeId} {c : Bool} {k : EK} {x y : AV} {u v : Value} {b : Bool} (hk : ekOf P t c = some k) (hx : SRel G L x u) (hy : SRel G L y v) (hb : k.eq x y = some b) (ox oy : Operand) (op : BinOp)
    (hc : c = (cst ox || cst oy)) : (eqGuard op t ox oy u v).run P w = .ok () w ∧
      (binOp .eql t u v = (do pure (.bool (← Op.equal t u v)))) ∧ (binOp .neq t u v = (do pure (.bool (!(← Op.equal t u v))))) := by
  have two : ∀ {nl ad : AV → Bool} {x y : AV}, nilEq nl ad x y = some b → (nl x = true ∨ ad x = true) ∧ (nl y = true ∨ ad y = true) := fun {nl ad x y} q => by
    simp only [nilEq] at q
    split at q
    · rename_i h1
      refine ⟨.inl h1, ?_⟩
      split at q
      · rename_i h2; exact .inl h2
      · split at q
        · rename_i h2; exact .inr h2
        · cases q
    · split at q
      · rename_i h2
        refine ⟨?_, .inl h2⟩
        split at q
        · rename_i h3; exact .inr h3
        · cases q
      · cases q
  unfold ekOf at hk
  split at hk
  · cases hk
    simp only [EK.eq] at hb
    cases x <;> cases y <;> simp [eqBools] at hb
    rw [hx.bool, hy.bool]
    exact ⟨guard_bool _ _ _ _ _ _ _, rfl, rfl⟩
  · cases hk
    have hp : ∀ {x : AV} {u : Value}, SRel G L x u → (nilP x = true ∨ adP x = true) → ∃ a, u = .pointer a := fun {x u} hx q => by
      rcases q with q | q
      · cases x <;> simp [nilP] at q
        split at q <;> simp_all
        exact ⟨_, hx.pl⟩
      · rcases hx with ⟨_, _, _, rfl, _, rfl⟩ | hx
        · exact ⟨_, rfl⟩
        · cases hx <;> simp [adP] at q <;> exact ⟨_, rfl⟩
    obtain ⟨q1, q2⟩ := two hb
    obtain ⟨a, rfl⟩ := hp hx q1
    obtain ⟨b, rfl⟩ := hp hy q2
    exact ⟨guard_ptr _ _ _ _ _ _ _, rfl, rfl⟩
  · cases hk
    have hp : ∀ {x : AV} {u : Value}, SRel G L x u → (nilS x = true ∨ adS x = true) → ∃ a n c, u = .slice a n c := fun {x u} hx q => by
      rcases q with q | q
      · cases x <;> simp [nilS] at q
        split at q <;> simp_all
        exact ⟨_, _, _, hx.pl⟩
      · rcases hx with ⟨_, _, _, rfl, _, rfl⟩ | hx
        · cases q
        · cases hx <;> simp [adS] at q <;> exact ⟨_, _, _, rfl⟩
    obtain ⟨q1, q2⟩ := two hb
    obtain ⟨a, _, _, rfl⟩ := hp hx q1
    obtain ⟨b, _, _, rfl⟩ := hp hy q2
    exact ⟨guard_sl _ _ _ _ _ _ _ _ _ _ _, rfl, rfl⟩
  · cases hk
    have hp : ∀ {x : AV} {u : Value}, SRel G L x u → (nilM x = true ∨ adM x = true) → ∃ a, u = .map a := fun {x u} hx q => by
      rcases q with q | q
      · cases x <;> simp [nilM] at q
        split at q <;> simp_all
        exact ⟨_, hx.pl⟩
      · rcases hx with ⟨_, _, _, rfl, _, rfl⟩ | hx
        · cases q
        · cases hx <;> simp [adM] at q <;> exact ⟨_, rfl⟩
    obtain ⟨q1, q2⟩ := two hb
    obtain ⟨a, rfl⟩ := hp hx q1
    obtain ⟨b, rfl⟩ := hp hy q2
    exact ⟨guard_map _ _ _ _ _ _ _, rfl, rfl⟩
  · cases hk
    have hp : ∀ {x : AV} {u : Value}, SRel G L x u → (nilF x = true ∨ adF x = true) → u = .nilFunc ∨ ∃ a n c, u = .func a n c := fun {x u} hx q => by
      rcases q with q | q
      · cases x <;> simp [nilF] at q
        split at q <;> simp_all
        exact .inl hx.pl
      · rcases hx with ⟨_, _, _, rfl, _, rfl⟩ | hx
        · cases q
        · cases hx <;> simp [adF] at q <;> exact .inr ⟨_, _, _, rfl⟩
    have hn : nilF x = true ∨ nilF y = true := by
      simp only [EK.eq, nilEq] at hb
      split at hb
      · rename_i q; exact .inl q
      · split at hb
        · rename_i q; exact .inr q
        · cases hb
    have nf : ∀ {x : AV} {u : Value}, SRel G L x u → nilF x = true → u = .nilFunc := fun {x u} hx q => by
      cases x <;> simp [nilF] at q
      split at q <;> simp_all
      exact hx.pl
    obtain ⟨q1, q2⟩ := two hb
    rcases hn with hn | hn
    · rw [nf hx hn]
      rcases hp hy q2 with rfl | ⟨a, n, c, rfl⟩
      · exact ⟨guard_f1 _ _ _ _ _, rfl, rfl⟩
      · exact ⟨guard_f2 _ _ _ _ _ _ _ _, rfl, rfl⟩
    · rw [nf hy hn]
      rcases hp hx q1 with rfl | ⟨a, n, c, rfl⟩
      · exact ⟨guard_f1 _ _ _ _ _, rfl, rfl⟩
      · exact ⟨guard_f3 _ _ _ _ _ _ _ _, rfl, rfl⟩
  · split at hk
    · rename_i hcc
      cases hk
      have hp : ∀ {x : AV} {u : Value}, SRel G L x u → (nilI x = true ∨ adI x = true) → u = .nilIface ∨ ∃ a n, u = .iface a n := fun {x u} hx q => by
        rcases q with q | q
        · cases x <;> simp [nilI] at q
          split at q <;> simp_all
          exact .inl hx.pl
        · rcases hx with ⟨_, _, _, rfl, _, rfl⟩ | hx
          · cases q
          · cases hx <;> simp [adI] at q <;> exact .inr ⟨_, _, rfl⟩
      have hn : nilI x = true ∨ nilI y = true := by
        simp only [EK.eq, nilEq] at hb
        split at hb
        · rename_i q; exact .inl q
        · split at hb
          · rename_i q; exact .inr q
          · cases hb
      have nf : ∀ {x : AV} {u : Value}, SRel G L x u → nilI x = true → u = .nilIface := fun {x u} hx q => by
        cases x <;> simp [nilI] at q
        split at q <;> simp_all
        exact hx.pl
      obtain ⟨q1, q2⟩ := two hb
      rcases hn with hn | hn
      · rw [nf hx hn]
        rcases hp hy q2 with rfl | ⟨a, n, rfl⟩
        · exact ⟨guard_i1 _ _ _ _ (hc ▸ hcc) _, rfl, rfl⟩
        · exact ⟨guard_i2 _ _ _ _ _ _ _, rfl, rfl⟩
      · rw [nf hy hn]
        rcases hp hx q1 with rfl | ⟨a, n, rfl⟩
        · exact ⟨guard_i1 _ _ _ _ (hc ▸ hcc) _, rfl, rfl⟩
        · exact ⟨guard_i3 _ _ _ _ _ _ _, rfl, rfl⟩
    · cases hk
  · rename_i fs ht
    split at hk
    · cases hk
    · rename_i hn
      simp only [Bool.or_eq_true, not_or, Bool.not_eq_true] at hn
      simp only [Option.map_eq_some_iff] at hk
      obtain ⟨ks, hks, rfl⟩ := hk
      simp only [EK.eq] at hb
      cases x <;> cases y <;> simp [eqAggs] at hb
      have h1 := hx.rel (by simp)
      have h2 := hy.rel (by simp)
      cases h1 with
      | agg _ vs hl hv =>
        cases h2 with
        | agg _ us hl' hu => exact ⟨run_eqGuard_agg w op t ox oy _ _ hn.2, rfl, rfl⟩
  · cases hk
theorem eqs_sound (h : Rel W0 G0 w0 N G L st H ca w) {op : BinOp} {t : TypeId} {x y : Operand} {x' y' : Opd} (hx : cOpd N x = some x') (hy : cOpd N y = some y') {k : EK} (hk : ekOf P t (cst x || cst y) = some k)
    {b : Bool} (hb : k.eq (st.ev x') (st.ev y') = some b) (ho : op = .eql ∨ op = .neq) : Gives P G L st w (do eqGuard op t x y (ca.eval x) (ca.eval y); binOp op t (ca.eval x) (ca.eval y)) (.bool (if op = .neq then !b else b)) := by
  have h1 := h.opd hx
  have h2 := h.opd hy
  obtain ⟨g, e1, e2⟩ := ek_shape (w := w) hk h1 h2 hb x y op rfl
  have r := eq_run (w := w) 9998 hk h1 h2 hb
  rw [← run_equal] at r
  rcases ho with rfl | rfl
  · refine .rel (v := .bool b) ?_ (.bool _)
    rw [Sem.run_bind, g, Result.andThen_ok, e1]
    simp [r]
  · refine .rel (v := .bool !b) ?_ (.bool _)
    rw [Sem.run_bind, g, Result.andThen_ok, e2]
    simp [r]
end
end Go.Qa
