/- Of the models of the ownership statements: the visits. -/
import Derived.Test.YtkecfadnfnnfaaaGreatDoorPlO4
set_option linter.unusedVariables false
set_option linter.unusedSimpArgs false
namespace Go.Proofs.YtkecfadnfnnfaaaGreatDoor.LabB.O
open Go Go.Ev Go.Sy Go.Proofs.YtkecfadnfnnfaaaGreatDoor.LabB
section
variable (p:Qae) (f:GFun)
variable (G B:List Bool) (s:List Int) (n:Qaf) (last:Bool) (cons rd gone scope:List Int) (nd er:Int)
theorem Qrz {v:Int}(h0:0≤v)(h1:v<((Qad f).length:Int)):Qb2 (Qbp p f) s p.1 p.2 f.1 f.2.1 f.2.2.1 f.2.2.2.1 f.2.2.2.2.1 f.2.2.2.2.2.1 f.2.2.2.2.2.2 v=some (own p f v):=by
 obtain ⟨x,hx,_,_,hr⟩:=Qot f h0 h1
 rw [Qkt,QpB p f h0 h1,Qaa,show at' f.2.2.2.1 v=some x from hx,Qaa,Qai,Qaa]
 unfold own
 rw [hr]
 cases flV p f v<;>rfl
theorem QCs (hp:QbS p)(hk:HOk p f)(l:List Int)(hl:l.length≤1000000)(hr:∀ v∈l,0≤v∧v<((Qad f).length:Int)):Qmu p f l=some (l.filter (own p f)):=by
 rw [QrX]
 have:=QaM (L:=fun s i=>QcZ s p f l i) (l:=l) (F:=fun s v=>if own p f v=true then s++[v] else s) (E:=id) (fun i s=>s.length≤i)
  (fun s i v hv hI=>⟨by
   have hI':s.length≤i:=hI
   have:=Qa7 hv
   obtain ⟨h0,h1⟩:=hr v (List.mem_of_getElem? hv)
   obtain ⟨x,hx,_,_,hrd⟩:=Qot f h0 h1
   rw [Qi5,Qal hv,cond_true,Qag hv,Qaa,show at' f.2.2.2.1 v=some x from hx,Qaa,Qyz p f hp hk h0 h1,Qaa,Qam hv (by omega),Qac (show (s.length+1) * 8≤35184372088832 by omega)]
   unfold own
   rw [hrd]
   cases x.2<;>cases flV p f v<;>rfl,Nat.le_trans (Qoq _ _ _) (by have:=hI; omega)⟩)
  (fun s hI=>by rw [Qi5,Qar,cond_false]; rfl) [] (by simp)
 rw [this,foldl_filter]
 rfl
theorem Quq (b:Bool)(l m:List Int)(sc:List Bool):setS b (l++m) sc=setS b m (setS b l sc):=by unfold setS; rw [List.foldl_append]
theorem QpD (q:Int→Bool):∀ (l:List Int) (B:List Bool),l.foldl (fun B v=>if q v=true then B.set v.toNat true else B) B=setS true (l.filter q) B
 | [],B=>rfl
 | v::l,B=>by
  rw [List.foldl_cons,QpD q l,List.filter_cons]
  cases q v<;>rfl
theorem Qxt (q:Bool)(B:List Bool)(i:Nat)(x:Bool):(if q=true then B.set i x else B).length=B.length:=by cases q<;>simp
theorem QDV (hB:B.length=(Qad f).length)(l:List Int)(hl:l.length≤1000000000000)(hr:∀ v∈l,0≤v∧v<((Qad f).length:Int)):Qff (Qbp p f) s G B l p.1 p.2 f.1 f.2.1 f.2.2.1 f.2.2.2.1 f.2.2.2.2.1 f.2.2.2.2.2.1 f.2.2.2.2.2.2=some (setS true (l.filter (own p f)) B):=by
 rw [Qlf,← QpD]
 have:=QaM (L:=fun T i=>QbA (Qbp p f) s G T l p.1 p.2 f.1 f.2.1 f.2.2.1 f.2.2.2.1 f.2.2.2.2.1 f.2.2.2.2.2.1 f.2.2.2.2.2.2 (l.length:Int) i) (l:=l) (F:=fun T v=>if own p f v=true then T.set v.toNat true else T) (E:=id) (fun _ T=>T.length=(Qad f).length)
  (fun T i v hv hI=>⟨by
   have hI':T.length=(Qad f).length:=hI
   obtain ⟨h0,h1⟩:=hr v (List.mem_of_getElem? hv)
   obtain ⟨x,hx,_⟩:=Qfp (l:=T) h0 (by omega)
   rw [QeQ,Qal hv,cond_true,Qag hv,Qaa,Qrz p f s h0 h1,Qaa,hx,Qaa,Qam hv (by omega)]
   cases own p f v<;>rfl,by rw [Qxt]; exact hI⟩)
  (fun T hI=>by rw [QeQ,Qar,cond_false]; rfl) B hB
 rw [this]
 rfl
theorem QzO (hB:B.length=(Qad f).length)(l:List Int)(hl:l.length≤1000000000000)(hr:∀ v∈l,0≤v∧v<((Qad f).length:Int)):QdY (Qbp p f) s G B l p.1 p.2 f.1 f.2.1 f.2.2.1 f.2.2.2.1 f.2.2.2.2.1 f.2.2.2.2.2.1 f.2.2.2.2.2.2 B.length=some (setS true (l.filter (own p f)) B):=by
 rw [QjI,← QpD]
 have:=QaM (L:=fun T i=>Qbd (Qbp p f) s G T l p.1 p.2 f.1 f.2.1 f.2.2.1 f.2.2.2.1 f.2.2.2.2.1 f.2.2.2.2.2.1 f.2.2.2.2.2.2 B.length (l.length:Int) i) (l:=l) (F:=fun T v=>if own p f v=true then T.set v.toNat true else T) (E:=id) (fun _ T=>T.length=(Qad f).length)
  (fun T i v hv hI=>⟨by
   have hI':T.length=(Qad f).length:=hI
   obtain ⟨h0,h1⟩:=hr v (List.mem_of_getElem? hv)
   obtain ⟨x,hx,_⟩:=Qfp (l:=T) h0 (by omega)
   rw [QdR,Qal hv,cond_true,Qag hv,Qaa,Qrz p f s h0 h1,Qaa,Qab (show ¬ v<0 by omega),Qac (show v<(B.length:Int) by omega),hx,Qaa,Qam hv (by omega)]
   cases own p f v<;>rfl,by rw [Qxt]; exact hI⟩)
  (fun T hI=>by rw [QdR,Qar,cond_false]; rfl) B hB
 rw [this]
 rfl
theorem Qow (hB:B.length=(Qad f).length)(l:List Int)(hl:l.length≤1000000000000)(hr:∀ v∈l,0≤v∧v<((Qad f).length:Int)):QaO (Qbp p f) s G B p.1 p.2 f.1 f.2.1 f.2.2.1 f.2.2.2.1 f.2.2.2.2.1 f.2.2.2.2.2.1 f.2.2.2.2.2.2 G.length B.length l=some (setS true (l.filter (own p f)) B):=by
 rw [QjK,← QpD]
 have:=QaM (L:=fun T i=>Qbe (Qbp p f) s G T p.1 p.2 f.1 f.2.1 f.2.2.1 f.2.2.2.1 f.2.2.2.2.1 f.2.2.2.2.2.1 f.2.2.2.2.2.2 G.length B.length l (l.length:Int) i) (l:=l) (F:=fun T v=>if own p f v=true then T.set v.toNat true else T) (E:=id) (fun _ T=>T.length=(Qad f).length)
  (fun T i v hv hI=>⟨by
   have hI':T.length=(Qad f).length:=hI
   obtain ⟨h0,h1⟩:=hr v (List.mem_of_getElem? hv)
   obtain ⟨x,hx,_⟩:=Qfp (l:=T) h0 (by omega)
   rw [QdT,Qal hv,cond_true,Qag hv,Qaa,Qrz p f s h0 h1,Qaa,Qab (show ¬ v<0 by omega),Qac (show v<(B.length:Int) by omega),hx,Qaa,Qam hv (by omega)]
   cases own p f v<;>rfl,by rw [Qxt]; exact hI⟩)
  (fun T hI=>by rw [QdT,Qar,cond_false]; rfl) B hB
 rw [this]
 rfl
theorem Qox (G:List Bool)(n:Nat)(h:G.length=n):List.take 0 (List.replicate (n:Int).toNat false)++(List.take (List.replicate (n:Int).toNat false).length G++List.drop (List.take (List.replicate (n:Int).toNat false).length G).length (List.replicate (n:Int).toNat false))=G:=by
 subst h
 simp
theorem QmC (G:List Bool)(n:Nat)(h:G.length=n):List.take 0 (List.replicate (n:Int).toNat false)++(List.take (List.replicate (n:Int).toNat false).length (List.take n G)++List.drop (List.take (List.replicate (n:Int).toNat false).length (List.take n G)).length (List.replicate (n:Int).toNat false))=G:=by
 subst h
 simp
theorem Qoy (n:Nat):(List.replicate (n:Int).toNat false).length=n:=by simp
theorem QzP (hl:G.length≤1000000)(hGB:G.length=B.length):Qdz G B=some (G,B,G.length,B.length):=by
 rw [Qja,Qab (by omega),Qac (by rw [Int.toNat_natCast]; omega),Qab (by omega),Qac (by rw [Int.toNat_natCast]; omega),Qox G _ rfl,Qox B _ rfl,Qoy,Qoy]
theorem QvT (hl:G.length≤1000000)(hGB:G.length=B.length):QcJ G B B.length=some (G,B,G.length,B.length):=by
 rw [Qhs,Qab (by omega),Qac (by rw [Int.toNat_natCast]; omega),Qab (by omega),Qac (by rw [Int.toNat_natCast]; omega),Qac (Nat.le_refl _),Qox G _ rfl,QmC B _ rfl,Qoy,Qoy]
theorem QvU (hl:G.length≤1000000)(hGB:G.length=B.length):QcK G B G.length B.length=some (G,B,G.length,B.length):=by
 rw [Qht,Qab (by omega),Qac (by rw [Int.toNat_natCast]; omega),Qab (by omega),Qac (by rw [Int.toNat_natCast]; omega),Qac (Nat.le_refl _),Qac (Nat.le_refl _),QmC G _ rfl,QmC B _ rfl,Qoy,Qoy]
theorem Qxu (G0 B0 B1:List Bool)(hG:G.length=(Qad f).length)(gl bl:Nat)(hgl:gl=(Qad f).length)(kid:Int)(l:List Int)(hl:l.length≤1000000)(hr:∀ v∈l,0≤v∧v<((Qad f).length:Int)∧flV p f v=false):QaK G0 B0 (Qbp p f) s ([]:List Bool) ([]:List Bool) G B1 l p.1 p.2 f.1 f.2.1 f.2.2.1 f.2.2.2.1 f.2.2.2.2.1 f.2.2.2.2.2.1 f.2.2.2.2.2.2 n gl bl kid (l.length:Int) 0=some (setS true l G):=by
 refine QaM (L:=fun T i=>QaK G0 B0 (Qbp p f) s ([]:List Bool) ([]:List Bool) T B1 l p.1 p.2 f.1 f.2.1 f.2.2.1 f.2.2.2.1 f.2.2.2.2.1 f.2.2.2.2.2.1 f.2.2.2.2.2.2 n gl bl kid (l.length:Int) i) (l:=l) (F:=fun T v=>T.set v.toNat true) (E:=id) (fun _ T=>T.length=(Qad f).length)
  (fun T i v hv hI=>⟨?_,by simpa using hI⟩)
  (fun T hI=>by rw [QdS,Qar,cond_false]; rfl) G hG
 have hI':T.length=(Qad f).length:=hI
 obtain ⟨h0,h1,_⟩:=hr v (List.mem_of_getElem? hv)
 obtain ⟨x,hx,_⟩:=Qfp (l:=T) h0 (by omega)
 rw [QdS,Qal hv,cond_true,Qag hv,Qaa,Qab (show ¬ v<0 by omega),Qac (show v<(gl:Int) by omega),hx,Qaa,Qam hv (by omega)]
theorem QzQ (sc:List Bool)(hn:QbN n)(h:Qbu p f sc n)(hsc:sc.length=(Qad f).length)(hv:(Qad f).length≤1000000)(hG:G.length=(Qad f).length)(hB:B.length=(Qad f).length)(i:Nat)(k:Int)(l:List Int)(hk:(kb n)[i]?=some (k,l)):
  QdZ (Qbp p f) s G B p.1 p.2 f.1 f.2.1 f.2.2.1 f.2.2.2.1 f.2.2.2.2.1 f.2.2.2.2.2.1 f.2.2.2.2.2.2 n (i:Int)=some (setS true (Qao p f n) G,setS true (l.filter (own p f)) B,(Qad f).length,(Qad f).length):=by
 have hc:=h.cons hn hsc
 have hcl:=hc.len
 have hrl:∀ v∈l,0≤v∧v<((Qad f).length:Int):=fun v hv=>h.rng v (QjQ (List.mem_of_getElem? hk) v hv)
 have hll:l.length≤1000000:=by have:=Qxr (List.mem_of_getElem? hk); have:=h.len; omega
 have hsl:(setS true (Qao p f n) G).length=(Qad f).length:=by rw [Qbv]; exact hG
 have hbnd:=Qow p f (setS true (Qao p f n) G) B s hB l (by omega) hrl
 rw [hsl,hB] at hbnd
 rw [QjJ,QzP G B (by omega) (by omega),Qaa,QjR p f s n hn h hsc]
 dsimp only
 rw [Qaa,hG,hB]
 dsimp only
 rw [Qxu p f G s n G B B hG _ _ rfl _ _ (by omega) hc.rng,Qaa,QgL n hn]
 by_cases h9:nOp n=9
 ·have:(nBr n)[i]?=some (l,k):=by
   unfold kb at hk
   rw [if_pos h9,List.getElem?_map] at hk
   cases hb:(nBr n)[i]? with
   | none=>rw [hb] at hk; simp at hk
   | some b=>
    rw [hb] at hk
    simp only [Option.map_some,osi,Prod.mk.injEq] at hk
    rw [← hk.1,← hk.2]
  rw [Qac h9,show at' n.2.2.2.2.2.2.2.2.1 (i:Int)=some (l,k) from Qag this,Qaa,hbnd]
  rfl
 ·have:l=binds n:=by
   unfold kb at hk
   rw [if_neg h9,List.getElem?_map] at hk
   cases hb:(kids n)[i]? with
   | none=>rw [hb] at hk; simp at hk
   | some b=>
    rw [hb] at hk
    simp only [Option.map_some,osi,Prod.mk.injEq] at hk
    exact hk.2.symm
  subst this
  rw [Qab h9,Qaa,hbnd]
  rfl
theorem QvV (sc:List Bool)(hn:QbN n)(h:Qbu p f sc n)(hsc:sc.length=(Qad f).length)(hv:(Qad f).length≤1000000)(hG:G.length=(Qad f).length)(hB:B.length=(Qad f).length)(i:Nat)(k:Int)(l:List Int)(hk:(kb n)[i]?=some (k,l)):
  Qda (Qbp p f) s G B p.1 p.2 f.1 f.2.1 f.2.2.1 f.2.2.2.1 f.2.2.2.2.1 f.2.2.2.2.2.1 f.2.2.2.2.2.2 n (i:Int) B.length=some (setS true (Qao p f n) G,setS true (l.filter (own p f)) B,(Qad f).length,(Qad f).length):=by
 have hc:=h.cons hn hsc
 have hcl:=hc.len
 have hrl:∀ v∈l,0≤v∧v<((Qad f).length:Int):=fun v hv=>h.rng v (QjQ (List.mem_of_getElem? hk) v hv)
 have hll:l.length≤1000000:=by have:=Qxr (List.mem_of_getElem? hk); have:=h.len; omega
 have hsl:(setS true (Qao p f n) G).length=(Qad f).length:=by rw [Qbv]; exact hG
 have hbnd:=Qow p f (setS true (Qao p f n) G) B s hB l (by omega) hrl
 rw [hsl,hB] at hbnd
 rw [Qix,QvT G B (by omega) (by omega),Qaa,QjR p f s n hn h hsc]
 dsimp only
 rw [Qaa,hG,hB]
 dsimp only
 rw [Qxu p f G s n G B B hG _ _ rfl _ _ (by omega) hc.rng,Qaa,QgL n hn]
 by_cases h9:nOp n=9
 ·have:(nBr n)[i]?=some (l,k):=by
   unfold kb at hk
   rw [if_pos h9,List.getElem?_map] at hk
   cases hb:(nBr n)[i]? with
   | none=>rw [hb] at hk; simp at hk
   | some b=>
    rw [hb] at hk
    simp only [Option.map_some,osi,Prod.mk.injEq] at hk
    rw [← hk.1,← hk.2]
  rw [Qac h9,show at' n.2.2.2.2.2.2.2.2.1 (i:Int)=some (l,k) from Qag this,Qaa,hbnd]
  rfl
 ·have:l=binds n:=by
   unfold kb at hk
   rw [if_neg h9,List.getElem?_map] at hk
   cases hb:(kids n)[i]? with
   | none=>rw [hb] at hk; simp at hk
   | some b=>
    rw [hb] at hk
    simp only [Option.map_some,osi,Prod.mk.injEq] at hk
    exact hk.2.symm
  subst this
  rw [Qab h9,Qaa,hbnd]
  rfl
theorem QvW (sc:List Bool)(hn:QbN n)(h:Qbu p f sc n)(hsc:sc.length=(Qad f).length)(hv:(Qad f).length≤1000000)(hG:G.length=(Qad f).length)(hB:B.length=(Qad f).length)(i:Nat)(k:Int)(l:List Int)(hk:(kb n)[i]?=some (k,l)):
  Qdb (Qbp p f) s G B p.1 p.2 f.1 f.2.1 f.2.2.1 f.2.2.2.1 f.2.2.2.2.1 f.2.2.2.2.2.1 f.2.2.2.2.2.2 n (i:Int) G.length B.length=some (setS true (Qao p f n) G,setS true (l.filter (own p f)) B,(Qad f).length,(Qad f).length):=by
 have hc:=h.cons hn hsc
 have hcl:=hc.len
 have hrl:∀ v∈l,0≤v∧v<((Qad f).length:Int):=fun v hv=>h.rng v (QjQ (List.mem_of_getElem? hk) v hv)
 have hll:l.length≤1000000:=by have:=Qxr (List.mem_of_getElem? hk); have:=h.len; omega
 have hsl:(setS true (Qao p f n) G).length=(Qad f).length:=by rw [Qbv]; exact hG
 have hbnd:=Qow p f (setS true (Qao p f n) G) B s hB l (by omega) hrl
 rw [hsl,hB] at hbnd
 rw [Qiy,QvU G B (by omega) (by omega),Qaa,QjR p f s n hn h hsc]
 dsimp only
 rw [Qaa,hG,hB]
 dsimp only
 rw [Qxu p f G s n G B B hG _ _ rfl _ _ (by omega) hc.rng,Qaa,QgL n hn]
 by_cases h9:nOp n=9
 ·have:(nBr n)[i]?=some (l,k):=by
   unfold kb at hk
   rw [if_pos h9,List.getElem?_map] at hk
   cases hb:(nBr n)[i]? with
   | none=>rw [hb] at hk; simp at hk
   | some b=>
    rw [hb] at hk
    simp only [Option.map_some,osi,Prod.mk.injEq] at hk
    rw [← hk.1,← hk.2]
  rw [Qac h9,show at' n.2.2.2.2.2.2.2.2.1 (i:Int)=some (l,k) from Qag this,Qaa,hbnd]
  rfl
 ·have:l=binds n:=by
   unfold kb at hk
   rw [if_neg h9,List.getElem?_map] at hk
   cases hb:(kids n)[i]? with
   | none=>rw [hb] at hk; simp at hk
   | some b=>
    rw [hb] at hk
    simp only [Option.map_some,osi,Prod.mk.injEq] at hk
    exact hk.2.symm
  subst this
  rw [Qab h9,Qaa,hbnd]
  rfl
end
end Go.Proofs.YtkecfadnfnnfaaaGreatDoor.LabB.O
namespace Go.Proofs.YtkecfadnfnnfaaaGreatDoor.LabB.O
open Go Go.Ev Go.Sy Go.Proofs.YtkecfadnfnnfaaaGreatDoor.LabB
section
variable (p:Qae) (f:GFun) (G B:List Bool) (s:List Int) (n:Qaf) (last:Bool)
variable (gone scope gone2 scope2:List Int)
end
end Go.Proofs.YtkecfadnfnnfaaaGreatDoor.LabB.O
