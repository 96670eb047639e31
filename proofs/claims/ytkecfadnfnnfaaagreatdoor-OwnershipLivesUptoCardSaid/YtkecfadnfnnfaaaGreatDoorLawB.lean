/- The models of this program are true of it. -/
import Derived.Test.YtkecfadnfnnfaaaGreatDoorModB
import Derived.Test.YtkecfadnfnnfaaaGreatDoorSyY
import Derived.Test.YtkecfadnfnnfaaaGreatDoorOkB
import Derived.Test.YtkecfadnfnnfaaaGreatDoorPkB
set_option maxRecDepth 100000
set_option linter.all false
namespace Go.Proofs.YtkecfadnfnnfaaaGreatDoor.LabB
open Go Go.Ev Go.Sy
theorem QDH:(List.range 416).all (fun i=>(match (tb.fam i).ext with |true=>(Nat.beq i 2||(Nat.beq i 3||Nat.beq i 254)) |false=>true))=true:=by kernel_rfl
theorem QDI (i:Nat)(h:¬ i<416):tb.fam i=default:=by
 show (match Nat.blt i 416 with |true=>fams.get i |false=>default)=default
 have:Nat.blt i 416=false:=by
  cases hb:Nat.blt i 416 with
  | false=>rfl
  | true=>exact absurd (by simpa [Nat.blt_eq] using hb) h
 rw [this]
theorem QFi (i:Nat)(h:(tb.fam i).ext=true):i=2∨i=3∨i=254:=by
 by_cases hi:i<416
 ·have:=List.all_eq_true.mp QDH i (List.mem_range.mpr hi)
  rw [h] at this
  rw [Bool.or_eq_true,Bool.or_eq_true] at this
  rcases this with h |h |h
  ·exact Or.inl (Nat.eq_of_beq_eq_true h)
  ·exact Or.inr (Or.inl (Nat.eq_of_beq_eq_true h))
  ·exact Or.inr (Or.inr (Nat.eq_of_beq_eq_true h))
 ·rw [QDI i hi] at h
  cases h
theorem QBX {s sep:List UInt8}{a b:List UInt8}{t:Bool}(h:cutM s sep=some (a,b,t)):cutP [.str s,.str sep]=some (.tup [.str a,.str b,.bool t]):=by
 unfold cutM at h
 split at h
 ·rename_i c
  unfold cutP
  simp only
  split at h
  ·rename_i hlt
   rw [hlt]
   simp only
   unfold cut1 at h
   split at h
   ·rename_i hd
    rw [hd]
    simp only [osi,Prod.mk.injEq] at h
    obtain ⟨rfl,rfl,rfl⟩:=h
    rfl
   ·rename_i y r hd
    rw [hd]
    simp only [osi,Prod.mk.injEq] at h
    obtain ⟨rfl,rfl,rfl⟩:=h
    rfl
  ·cases h
 ·cases h
theorem QFj {s cs r:List UInt8}(h:Qw6 s cs=some r):Qwh [.str s,.str cs]=some (.str r):=by
 unfold Qw6 at h
 unfold Qwh
 simp only
 split at h
 ·rename_i hc
  rw [hc]
  simp only [osi] at h
  subst h
  rfl
 ·cases h
theorem QGx:QDC ctx tb G:=by
 intro i x z he hz env θ n j o hx hal ho
 rcases QFi i he with rfl |rfl |rfl
 ·have hz':cutM (show List UInt8×List UInt8 from x).1 (show List UInt8×List UInt8 from x).2=some (show List UInt8×List UInt8×Bool from z):=hz
  have ho':([QAQ [.str,.str,.bool]]:List Out)[j]?=some o:=ho
  cases j with
  | succ j=>simp at ho'
  | zero=>
   simp only [List.getElem?_cons_zero,osi] at ho'
   subst ho'
   have hb:(show List UInt8×List UInt8×Bool from z)=(env n .str,env (n+1) .str,env (n+2) .bool):=hal
   rw [hb] at hz'
   show cutP [.str (show List UInt8×List UInt8 from x).1,.str (show List UInt8×List UInt8 from x).2]=some (.tup [.str (env n .str),.str (env (n+1) .str),.bool (env (n+2) .bool)])
   exact QBX hz'
 ·have hz':Qw6 (show List UInt8×List UInt8 from x).1 (show List UInt8×List UInt8 from x).2=some (show List UInt8 from z):=hz
  have ho':([QAQ [.str]]:List Out)[j]?=some o:=ho
  cases j with
  | succ j=>simp at ho'
  | zero=>
   simp only [List.getElem?_cons_zero,osi] at ho'
   subst ho'
   have hb:(show List UInt8 from z)=env n .str:=hal
   rw [hb] at hz'
   show Qwh [.str (show List UInt8×List UInt8 from x).1,.str (show List UInt8×List UInt8 from x).2]=some (.str (env n .str))
   exact QFj hz'
 ·have hz':some true=some z:=hz
  have ho':([QAQ [.bool]]:List Out)[j]?=some o:=ho
  cases j with
  | succ j=>simp at ho'
  | zero=>
   simp only [List.getElem?_cons_zero,osi] at ho'
   subst ho'
   have hz2:true=z:=Option.some.inj hz'
   subst hz2
   have hb:true=env n .bool:=hal
   show ∃ H',R ctx (.pfn 12 [])=some (.val (.bool (env n .bool)) H')
   rw [← hb]
   exact ⟨[],QxW Qzu⟩
theorem Qzv:Qmt=some true:=QE5 ctx tb G 254 (by kernel_rfl) ()
end Go.Proofs.YtkecfadnfnnfaaaGreatDoor.LabB
