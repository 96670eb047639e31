/- The contracts of the program's library functions; the tables are the program's. -/
import Derived.Test.YtkecfadnfnnfaaaGreatDoorTabB
import Derived.Shelf.Strings.Cut
import Derived.Shelf.Strings.SlTrimAscii
import Derived.Test.YtkecfadnfnnfaaaGreatDoorOkB
import Derived.Test.YtkecfadnfnnfaaaGreatDoorSyX
namespace Go.Proofs.YtkecfadnfnnfaaaGreatDoor.LabB
open Go Go.Shelf Go.Proofs
def Qxc:Go.Shelf.Ren:=⟨fun |145=>193 |220=>208 |219=>219 |217=>228 |225=>229 |224=>230 |267=>231 |266=>236 |314=>237 |n=>n,fun |9=>9 |4=>4 |59=>225 |3=>3 |5=>5 |46=>211 |146=>230 |51=>229 |n=>n,fun |1=>0 |n=>n⟩
theorem QFa:Go.Proofs.Lays.n145 Tryz.prog Qxc:={
 mixed:=by kernel_rfl
 f145:=Tryz.func193.trans (congrArg some (by kernel_rfl))
 f217:=Tryz.func228.trans (congrArg some (by kernel_rfl))
 f219:=Tryz.func219.trans (congrArg some (by kernel_rfl))
 f220:=Tryz.func208.trans (congrArg some (by kernel_rfl))
 f224:=Tryz.func230.trans (congrArg some (by kernel_rfl))
 f225:=Tryz.func229.trans (congrArg some (by kernel_rfl))
 f266:=Tryz.func236.trans (congrArg some (by kernel_rfl))
 f267:=Tryz.func231.trans (congrArg some (by kernel_rfl))
 f314:=Tryz.func237.trans (congrArg some (by kernel_rfl))
 t3:=Tryz.underlying3
 a3:=Tryz.isAgg3
 z3:=Tryz.sizeOf3
 v3:=Tryz.zeroValue3
 t4:=Tryz.underlying4
 a4:=Tryz.isAgg4
 z4:=Tryz.sizeOf4
 v4:=Tryz.zeroValue4
 t5:=Tryz.underlying5
 a5:=Tryz.isAgg5
 z5:=Tryz.sizeOf5
 v5:=Tryz.zeroValue5
 t9:=Tryz.underlying9
 a9:=Tryz.isAgg9
 z9:=Tryz.sizeOf9
 v9:=Tryz.zeroValue9
 t46:=Tryz.underlying211
 a46:=Tryz.isAgg211
 z46:=Tryz.sizeOf211
 v46:=Tryz.zeroValue211
 t51:=Tryz.underlying229
 a51:=Tryz.isAgg229
 z51:=Tryz.sizeOf229
 v51:=Tryz.zeroValue229
 t59:=Tryz.underlying225
 a59:=Tryz.isAgg225
 z59:=Tryz.sizeOf225
 v59:=Tryz.zeroValue225
 t146:=Tryz.underlying230
 a146:=Tryz.isAgg230
 z146:=Tryz.sizeOf230
 v146:=Tryz.zeroValue230
 g1:=by kernel_rfl }
def Qxd:Go.Shelf.Ren:=⟨fun |160=>209 |232=>221 |231=>220 |227=>222 |234=>224 |233=>223 |236=>226 |235=>225 |228=>232 |271=>235 |151=>234 |197=>233 |120=>240 |152=>239 |260=>238 |137=>241 |119=>242 |224=>230 |225=>229 |217=>228 |266=>236 |n=>n,fun |9=>9 |4=>4 |3=>3 |5=>5 |117=>249 |116=>248 |0=>0 |124=>252 |21=>21 |105=>255 |46=>211 |119=>260 |139=>263 |138=>262 |n=>n,fun |3=>1 |4=>2 |n=>n⟩
theorem QFb:Go.Proofs.Lays.n160 Tryz.prog Qxd:={
 mixed:=by kernel_rfl
 f119:=Tryz.func242.trans (congrArg some (by kernel_rfl))
 f120:=Tryz.func240.trans (congrArg some (by kernel_rfl))
 f137:=Tryz.func241.trans (congrArg some (by kernel_rfl))
 f151:=Tryz.func234.trans (congrArg some (by kernel_rfl))
 f152:=Tryz.func239.trans (congrArg some (by kernel_rfl))
 f160:=Tryz.func209.trans (congrArg some (by kernel_rfl))
 f197:=Tryz.func233.trans (congrArg some (by kernel_rfl))
 f217:=Tryz.func228.trans (congrArg some (by kernel_rfl))
 f224:=Tryz.func230.trans (congrArg some (by kernel_rfl))
 f225:=Tryz.func229.trans (congrArg some (by kernel_rfl))
 f227:=Tryz.func222.trans (congrArg some (by kernel_rfl))
 f228:=Tryz.func232.trans (congrArg some (by kernel_rfl))
 f231:=Tryz.func220.trans (congrArg some (by kernel_rfl))
 f232:=Tryz.func221.trans (congrArg some (by kernel_rfl))
 f233:=Tryz.func223.trans (congrArg some (by kernel_rfl))
 f234:=Tryz.func224.trans (congrArg some (by kernel_rfl))
 f235:=Tryz.func225.trans (congrArg some (by kernel_rfl))
 f236:=Tryz.func226.trans (congrArg some (by kernel_rfl))
 f260:=Tryz.func238.trans (congrArg some (by kernel_rfl))
 f266:=Tryz.func236.trans (congrArg some (by kernel_rfl))
 f271:=Tryz.func235.trans (congrArg some (by kernel_rfl))
 t0:=Tryz.underlying0
 a0:=Tryz.isAgg0
 z0:=Tryz.sizeOf0
 v0:=Tryz.zeroValue0
 t3:=Tryz.underlying3
 a3:=Tryz.isAgg3
 z3:=Tryz.sizeOf3
 v3:=Tryz.zeroValue3
 t4:=Tryz.underlying4
 a4:=Tryz.isAgg4
 z4:=Tryz.sizeOf4
 v4:=Tryz.zeroValue4
 t5:=Tryz.underlying5
 a5:=Tryz.isAgg5
 z5:=Tryz.sizeOf5
 v5:=Tryz.zeroValue5
 t9:=Tryz.underlying9
 a9:=Tryz.isAgg9
 z9:=Tryz.sizeOf9
 v9:=Tryz.zeroValue9
 t21:=Tryz.underlying21
 a21:=Tryz.isAgg21
 z21:=Tryz.sizeOf21
 v21:=Tryz.zeroValue21
 t46:=Tryz.underlying211
 a46:=Tryz.isAgg211
 z46:=Tryz.sizeOf211
 v46:=Tryz.zeroValue211
 t105:=Tryz.underlying255
 a105:=Tryz.isAgg255
 z105:=Tryz.sizeOf255
 v105:=Tryz.zeroValue255
 t116:=Tryz.underlying248
 a116:=Tryz.isAgg248
 z116:=Tryz.sizeOf248
 t117:=Tryz.underlying249
 a117:=Tryz.isAgg249
 z117:=Tryz.sizeOf249
 v117:=Tryz.zeroValue249
 t119:=Tryz.underlying260
 a119:=Tryz.isAgg260
 z119:=Tryz.sizeOf260
 t124:=Tryz.underlying252
 a124:=Tryz.isAgg252
 z124:=Tryz.sizeOf252
 v124:=Tryz.zeroValue252
 t138:=Tryz.underlying262
 a138:=Tryz.isAgg262
 z138:=Tryz.sizeOf262
 v138:=Tryz.zeroValue262
 t139:=Tryz.underlying263
 a139:=Tryz.isAgg263
 z139:=Tryz.sizeOf263
 v139:=Tryz.zeroValue263
 g3:=by kernel_rfl
 g4:=by kernel_rfl }
end Go.Proofs.YtkecfadnfnnfaaaGreatDoor.LabB
noncomputable section
namespace Go.Proofs.YtkecfadnfnnfaaaGreatDoor.LabB
open Go Go.Ev Go.Proofs Go.RowKit
def QGs:Prim→Bool | .no=>true |_=>false
theorem QDF:(List.range tabs.nf).all (fun f=>QGs (tabs.ctx.prim f)||(Nat.beq f 65||(Nat.beq f 98||(Nat.beq f 99||(Nat.beq f 100||(Nat.beq f 101||(Nat.beq f 104||(Nat.beq f 193||Nat.beq f 209))))))))=true:=by kernel_rfl
theorem QGt:tabs.ctx.prim 65=.clone 70:=by kernel_rfl
theorem QGu:tabs.ctx.prim 98=.clone 3:=by kernel_rfl
theorem QGv:tabs.ctx.prim 99=.clone 102:=by kernel_rfl
theorem QFc:tabs.ctx.prim 100=.clone 35:=by kernel_rfl
theorem QFd:tabs.ctx.prim 101=.clone 95:=by kernel_rfl
theorem QFe:tabs.ctx.prim 104=.clone 54:=by kernel_rfl
theorem QFf:tabs.ctx.prim 193=.pure cutP:=by kernel_rfl
theorem QFg:tabs.ctx.prim 209=.pure Qwh:=by kernel_rfl
theorem QDG:Qsc Tryz.prog tabs.ctx 193 (.pure cutP):=by
 refine ⟨⟨Tryz.f193,Tryz.func193,by decide,by rfl⟩,fun I w fs cvs v hI hv hp=>?_⟩
 unfold cutP at hp
 split at hp
 ·rename_i s c
  obtain ⟨a,b,rfl,ha,hb⟩:=Sy.QvE hv
  split at hp
  ·rename_i hlt
   have hs:a.size<4294967281:=by
    rw [Nat.blt_eq,← ha] at hlt
    exact hlt
   have hbc:b=⟨#[c]⟩:=by
    obtain ⟨⟨l⟩⟩:=b
    simp only at hb
    rw [hb]
   subst hbc
   have key:=Sy.QBW QFa a c w hs
   rw [Sy.QBX,ha] at key
   unfold Sy.cut1 at key
   have low:∀ n,Below w.heap.size w (w.drewN n):=fun n=>⟨rfl,rfl,rfl,Nat.le_refl _,fun _ _=>rfl⟩
   split at hp
   ·rename_i hd
    rw [hd] at key
    simp only [osi] at hp
    subst hp
    refine Sy.Qug hI (Calls.mono key fun e w' h=>⟨h.1,?_⟩) ?_
    ·obtain ⟨_,n,rfl⟩:=h; exact low n
    ·refine .tup _ _ _ rfl fun j x u hx hu=>?_
     match j with
     | 0=>simp at hx hu; subst hx; subst hu; exact .str _ _ _ (by simp)
     | 1=>simp at hx hu; subst hx; subst hu; exact .str _ _ _ (by simp)
     | 2=>simp at hx hu; subst hx; subst hu; exact .bool _ _
     | j+3=>simp at hx
   ·rename_i x r hd
    rw [hd] at key
    simp only [osi] at hp
    subst hp
    refine Sy.Qug hI (Calls.mono key fun e w' h=>⟨h.1,?_⟩) ?_
    ·obtain ⟨_,n,rfl⟩:=h; exact low n
    ·refine .tup _ _ _ rfl fun j x u hx hu=>?_
     match j with
     | 0=>simp at hx hu; subst hx; subst hu; exact .str _ _ _ (by simp)
     | 1=>simp at hx hu; subst hx; subst hu; exact .str _ _ _ (by simp)
     | 2=>simp at hx hu; subst hx; subst hu; exact .bool _ _
     | j+3=>simp at hx
  ·cases hp
 ·cases hp
theorem QBY:Qsc Tryz.prog tabs.ctx 209 (.pure Qwh):=by
 refine ⟨⟨Tryz.f209,Tryz.func209,by decide,by rfl⟩,fun I w fs cvs v hI hv hp=>?_⟩
 unfold Qwh at hp
 split at hp
 ·rename_i s cs
  obtain ⟨a,b,rfl,ha,hb⟩:=Sy.QvE hv
  split at hp
  ·rename_i hlt
   rw [Bool.and_eq_true,Bool.and_eq_true,Nat.blt_eq,Nat.blt_eq] at hlt
   obtain ⟨h1,h2,h3⟩:=hlt
   have key:=Any.strings_Trim_laid QFb (by kernel_rfl) a b w (by have:a.size<4294967281:=by rw [← ha] at h2; exact h2
                                                                 omega) (by rw [← hb] at h3; exact h3) (fun j x hx=>by
    rw [hb] at hx
    have:=List.all_eq_true.1 h1 x (List.mem_of_getElem? hx)
    rwa [Nat.blt_eq] at this)
   rw [ha,hb] at key
   simp only [osi] at hp
   subst hp
   exact Sy.Qug hI key (.str _ _ _ rfl)
  ·cases hp
 ·cases hp
theorem QFh (f:FuncId):Qsc Tryz.prog tabs.ctx f (tabs.ctx.prim f):=by
 by_cases hf:f<tabs.nf
 ·have:=List.all_eq_true.1 QDF f (List.mem_range.2 hf)
  simp only [Bool.or_eq_true] at this
  rcases this with h |h |h |h |h |h |h |h |h
  ·cases hp:tabs.ctx.prim f with
   | no=>trivial
   | clone e=>rw [hp] at h; cases h
   | pure p=>rw [hp] at h; cases h
  ·have:=Nat.eq_of_beq_eq_true h
   subst this
   rw [QGt]
   exact QgK (F:=Tryz.f65) (T:=36) QrH (by kernel_rfl) rfl ⟨0,1,2,3,_,_,_,_,36,rfl,rfl,rfl,rfl,rfl⟩ rfl rfl (by kernel_rfl) (by decide)
  ·have:=Nat.eq_of_beq_eq_true h
   subst this
   rw [QGu]
   exact QgK (F:=Tryz.f98) (T:=42) QrH (by kernel_rfl) rfl ⟨0,1,2,3,_,_,_,_,42,rfl,rfl,rfl,rfl,rfl⟩ rfl rfl (by kernel_rfl) (by decide)
  ·have:=Nat.eq_of_beq_eq_true h
   subst this
   rw [QGv]
   exact QgK (F:=Tryz.f99) (T:=71) QrH (by kernel_rfl) rfl ⟨0,1,2,3,_,_,_,_,71,rfl,rfl,rfl,rfl,rfl⟩ rfl rfl (by kernel_rfl) (by decide)
  ·have:=Nat.eq_of_beq_eq_true h
   subst this
   rw [QFc]
   exact QgK (F:=Tryz.f100) (T:=100) QrH (by kernel_rfl) rfl ⟨0,1,2,3,_,_,_,_,100,rfl,rfl,rfl,rfl,rfl⟩ rfl rfl (by kernel_rfl) (by decide)
  ·have:=Nat.eq_of_beq_eq_true h
   subst this
   rw [QFd]
   exact QgK (F:=Tryz.f101) (T:=52) QrH (by kernel_rfl) rfl ⟨0,1,2,3,_,_,_,_,52,rfl,rfl,rfl,rfl,rfl⟩ rfl rfl (by kernel_rfl) (by decide)
  ·have:=Nat.eq_of_beq_eq_true h
   subst this
   rw [QFe]
   exact QgK (F:=Tryz.f104) (T:=37) QrH (by kernel_rfl) rfl ⟨0,1,2,3,_,_,_,_,37,rfl,rfl,rfl,rfl,rfl⟩ rfl rfl (by kernel_rfl) (by decide)
  ·have:=Nat.eq_of_beq_eq_true h
   subst this
   rw [QFf]
   exact QDG
  ·have:=Nat.eq_of_beq_eq_true h
   subst this
   rw [QFg]
   exact QBY
 ·have e:tabs.ctx.prim f=.no:=by
   show ifB (Nat.blt f tabs.nf) _ _=_
   cases hb:Nat.blt f tabs.nf with
   | false=>rfl
   | true=>exact absurd ((Ql4 _ _).1 hb) hf
  rw [e]; trivial
theorem QGw:QpU Tryz.prog tabs.ctx:=Tabs.ok used QrH QE8 QE9 QDE mixed QFh
theorem good (k:Nat):Go.Ev.Good Tryz.prog tabs.ctx (run tabs.ctx k):=QxJ QGw k
end Go.Proofs.YtkecfadnfnnfaaaGreatDoor.LabB
end
