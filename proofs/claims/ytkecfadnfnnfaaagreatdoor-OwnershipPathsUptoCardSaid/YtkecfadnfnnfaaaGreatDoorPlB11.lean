/- Of the models: the check of the reference. -/
import Derived.Test.YtkecfadnfnnfaaaGreatDoorPlB9
set_option linter.unusedVariables false
set_option linter.unusedSimpArgs false
namespace Go.Proofs.YtkecfadnfnnfaaaGreatDoor.LabB
open Go Go.Ev Go.Sy
section
variable (p:Qae) (f:GFun)
end
end Go.Proofs.YtkecfadnfnnfaaaGreatDoor.LabB
namespace Go.Proofs.YtkecfadnfnnfaaaGreatDoor.LabB
open Go Go.Ev Go.Sy
theorem QwW:∀ (l:List Int) (bo bo':List Bool),QmG bo l=.inr bo'→cf bo'+l.length=cf bo
 | [],bo,bo',h=>by cases h; rfl
 | v::l,bo,bo',h=>by
  rw [QmG] at h
  split at h
  ·rename_i hv
   have:=QwW l _ _ h
   have:=QrC bo v.toNat hv
   rw [List.length_cons]
   omega
  ·cases h
structure SR (sl:List Int)(sc:List Bool):Prop where
 mem:∀ v,v∈sl↔(0≤v∧sc[v.toNat]?=some true)
structure BR (m:Int)(br bo:List Bool):Prop where
 len:br.length=bo.length
 at_:∀ i:Nat,i<bo.length→bo[i]?=some (decide ((i:Int)<m)||(br[i]?==some true))
theorem BR.get {m:Int}{br bo:List Bool}(h:BR m br bo){v:Int}(h0:0≤v)(h1:v<(bo.length:Int)):∃ y,at' br v=some y∧bo[v.toNat]?=some (decide (v<m)||y):=by
 obtain ⟨y,hy,hy'⟩:=Qhy (l:=br) h0 (by rw [h.len]; exact h1)
 refine ⟨y,hy,?_⟩
 rw [h.at_ v.toNat (by omega),hy',Int.toNat_of_nonneg h0]
 cases y<;>rfl
theorem BR.set {m:Int}{br bo:List Bool}(h:BR m br bo)(i:Nat):BR m (br.set i true) (bo.set i true):=⟨by simp [h.len],fun j hj=>by
 rw [List.length_set] at hj
 rw [List.getElem?_set,List.getElem?_set]
 by_cases hi:i=j
 ·subst hi
  rw [if_pos rfl,if_pos rfl,if_pos hj,if_pos (by rw [h.len]; exact hj)]
  simp
 ·rw [if_neg hi,if_neg hi]
  exact h.at_ j hj⟩
section
variable (p:Qae) (f:GFun)
theorem SR.add {sl:List Int}{sc:List Bool}(h:SR sl sc)(l:List Int)(hl:∀ v∈l,0≤v∧v<(sc.length:Int)):SR (sl++l) (setS true l sc):=⟨fun v=>by
 rw [List.mem_append,h.mem v,Qjq]
 constructor
 ·rintro (⟨h0,h1⟩ |h1)
  ·refine ⟨h0,?_⟩
   split
   ·rfl
   ·exact h1
  ·obtain ⟨h2,h3⟩:=hl v h1
   exact ⟨h2,by rw [if_pos ⟨⟨v,h1,rfl⟩,by omega⟩]⟩
 ·rintro ⟨h0,h1⟩
  split at h1
  ·rename_i h2
   obtain ⟨⟨w,hw,hwv⟩,_⟩:=h2
   have:=(hl w hw).1
   have:w=v:=by omega
   exact Or.inr (this▸hw)
  ·exact Or.inl ⟨h0,h1⟩⟩
theorem QsY {n:Qag}{k:Int}{l:List Int}(h:(k,l)∈kb n):l.length≤(binds n).length:=by
 unfold kb at h
 split at h
 ·rename_i h9
  simp only [List.mem_map,Prod.mk.injEq] at h
  obtain ⟨b,hb,_,rfl⟩:=h
  unfold binds
  rw [if_pos h9]
  have:∀ L:List Qa2,b∈L→b.1.length≤(L.flatMap (·.1)).length:=by
   intro L
   induction L with
   | nil=>intro h; simp at h
   | cons x L ih=>
    intro h
    rw [List.flatMap_cons,List.length_append]
    rcases List.mem_cons.1 h with rfl |h
    ·omega
    ·have:=ih h; omega
  exact this _ hb
 ·simp only [List.mem_map,Prod.mk.injEq] at h
  obtain ⟨_,_,_,rfl⟩:=h
  exact Nat.le_refl _
end
end Go.Proofs.YtkecfadnfnnfaaaGreatDoor.LabB
