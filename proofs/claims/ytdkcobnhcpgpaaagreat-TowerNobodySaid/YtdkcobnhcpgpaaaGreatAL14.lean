/-
  The layer AL, part 14: zero values; how a seat's tables are told.
-/
import Derived.Test.YtdkcobnhcpgpaaaGreatAL13
import Derived.KernelRfl
set_option linter.unusedSimpArgs false
set_option linter.unusedVariables false
namespace Go.AL
open Go

mutual
def AV.flat : AV → List Value
  | .val v => [v]
  | .sl _ _ _ => [.slice none 0 0]
  | .agg _ ps | .vec _ ps => AV.flats ps
  | _ => []
def AV.flats : List AV → List Value
  | [] => []
  | a :: as => AV.flat a ++ AV.flats as
end
mutual
def AV.wfz : AV → Bool
  | .val v => v.oneCell'
  | .sl _ L _ => L.isEmpty
  | .agg n ps => AV.wfzs ps && n == (AV.flats ps).length
  | .vec sz ps => AV.wfzu sz ps
  | _ => false
def AV.wfzs : List AV → Bool
  | [] => true
  | a :: as => AV.wfz a && AV.wfzs as
def AV.wfzu (sz : Nat) : List AV → Bool
  | [] => true
  | a :: as => AV.wfz a && ((AV.flat a).length == sz && AV.wfzu sz as)
end

mutual
theorem AV.wfz_R {g : G} {w : World} : ∀ (a : AV), a.wfz = true → R g w (.one a a.flat)
  | .val v, h => by rw [AV.wfz] at h; rw [AV.flat]; exact .val h
  | .sl sz L tok, h => by
    rw [AV.wfz] at h
    rw [AV.flat]
    have : L = [] := by simpa using h
    subst this; exact .slNil
  | .agg n ps, h => by
    rw [AV.wfz, Bool.and_eq_true] at h
    rw [AV.flat]
    exact .agg (AV.wfzs_R ps h.1) (by simpa using h.2)
  | .vec sz ps, h => by rw [AV.wfz] at h; rw [AV.flat]; exact .vec (AV.wfzu_R sz ps h)
  | .undef, h => by simp [AV.wfz] at h
  | .ref .., h => by simp [AV.wfz] at h
  | .cref .., h => by simp [AV.wfz] at h
  | .aref .., h => by simp [AV.wfz] at h
  | .map .., h => by simp [AV.wfz] at h
  | .clos .., h => by simp [AV.wfz] at h
  | .tup .., h => by simp [AV.wfz] at h
theorem AV.wfzs_R {g : G} {w : World} : ∀ (as : List AV), AV.wfzs as = true → R g w (.seq as (AV.flats as))
  | [], _ => by rw [AV.flats]; exact .seqNil
  | a :: as, h => by
    rw [AV.wfzs, Bool.and_eq_true] at h
    rw [AV.flats]
    exact .seqCons (AV.wfz_R a h.1) (AV.wfzs_R as h.2)
theorem AV.wfzu_R {g : G} {w : World} (sz : Nat) : ∀ (as : List AV), AV.wfzu sz as = true → R g w (.useq sz as (AV.flats as))
  | [], _ => by rw [AV.flats]; exact .useqNil
  | a :: as, h => by
    rw [AV.wfzu, Bool.and_eq_true, Bool.and_eq_true] at h
    rw [AV.flats]
    exact .useqCons (AV.wfz_R a h.1) (by simpa using h.2.1) (AV.wfzu_R sz as h.2.2)
end

theorem ZeroOK.mk {P : Program} {T : TypeId} {z : AV} (v : Value) (h1 : (P.info? T).bind (·.zero) = some v) (h2 : z.wfz = true) (h3 : v.cells.toList = z.flat) (h4 : isAggV v = z.isAgg) : ZeroOK P T z :=
  ⟨v, h1, fun g w => ⟨by rw [h3]; exact AV.wfz_R z h2, h4⟩⟩

def zLook (l : List (Nat × AV)) (T : Nat) : Option AV :=
  match l with
  | [] => none
  | (k, z) :: r => if k = T then some z else zLook r T
def zAll (P : Program) : List (Nat × AV) → Prop
  | [] => True
  | (k, z) :: r => ZeroOK P k z ∧ zAll P r
theorem zLook_ok {P : Program} : ∀ {l : List (Nat × AV)}, zAll P l → ∀ T z, zLook l T = some z → ZeroOK P T z
  | [], _, T, z, h => by cases h
  | (k, x) :: r, ha, T, z, h => by
    obtain ⟨h1, h2⟩ := ha
    simp only [zLook] at h
    split at h
    · rename_i e; injection h with h; subst e h; exact h1
    · exact zLook_ok h2 T z h

end Go.AL
