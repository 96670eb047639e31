/- Of the models of the ownership statements: paths consume each owned variable once. -/
import Derived.Test.YtkecfadnfnnfaaaGreatDoorPlO7
set_option linter.unusedVariables false
set_option linter.unusedSimpArgs false
namespace Go.Proofs.YtkecfadnfnnfaaaGreatDoor.LabB.O
open Go Go.Ev Go.Sy Go.Proofs.YtkecfadnfnnfaaaGreatDoor.LabB
theorem Qw1 {l:List Int}{G:List Bool}(hl:∀ v∈l,0≤v){v:Int}(h0:0≤v)(h1:v<(G.length:Int)):gm (setS true l G) v=(decide (v∈l)||gm G v):=by
 have hg:gm (setS true l G) v=true↔(v∈l∨gm G v=true):=by
  rw [Qw0,Qw0,Qjq]
  by_cases hm:v∈l
  ·rw [if_pos ⟨⟨v,hm,rfl⟩,by omega⟩]
   exact ⟨fun _=>Or.inl hm,fun _=>rfl⟩
  ·rw [if_neg]
   ·exact ⟨fun h=>Or.inr h,fun h=>h.resolve_left hm⟩
   ·rintro ⟨⟨w,hw,he⟩,_⟩
    have:=hl w hw
    exact hm (by rw [show v=w by omega]; exact hw)
 rw [Bool.eq_iff_iff,hg,Bool.or_eq_true,decide_eq_true_eq]
theorem QAR {s cons rd:List Int}(h:dupS s cons rd=true):cons.Nodup:=by
 rw [List.nodup_iff_pairwise_ne,List.pairwise_iff_getElem]
 intro i j hi hj hij he
 have:=Qk8 cons 0 j h _ (List.getElem?_eq_getElem hj)
 rw [Nat.zero_add,Bool.and_eq_true,Bool.not_eq_true',decide_eq_false_iff_not] at this
 refine this.1 ?_
 rw [← he]
 exact List.mem_take_iff_getElem.2 ⟨i,by omega,rfl⟩
def incT (T:List Int)(v:Int):List Int:=T.set v.toNat (Ev.wr .i64 (rt T v+1))
theorem Quz:∀ (l:List Int) (T:List Int),(∀ v∈l,0≤v∧v<(T.length:Int))→l.Nodup→(∀ v∈l,rt T v=0)→(l.foldl incT T).length=T.length∧∀ w:Int,0≤w→rt (l.foldl incT T) w=if w∈l then 1 else rt T w
 | [],T,_,_,_=>⟨rfl,fun w _=>by simp⟩
 | v::l,T,hr,hn,hz=>by
  obtain ⟨h0,h1⟩:=hr v (by simp)
  rw [List.nodup_cons] at hn
  have hlen:(incT T v).length=T.length:=by unfold incT; simp
  have hset:∀ w:Int,0≤w→rt (incT T v) w=if w=v then 1 else rt T w:=fun w hw=>by
   unfold incT
   rw [QCM T v w _ h0 h1 hw,hz v (by simp)]
   rfl
  obtain ⟨a1,a2⟩:=Quz l (incT T v) (fun w hw=>by rw [hlen]; exact hr w (by simp [hw])) hn.2 (fun w hw=>by
   rw [hset w (hr w (by simp [hw])).1,if_neg (fun h=>hn.1 (by rw [← h]; exact hw))]
   exact hz w (by simp [hw]))
  rw [List.foldl_cons]
  refine ⟨by rw [a1,hlen],fun w hw=>?_⟩
  rw [a2 w hw,hset w hw]
  by_cases hwl:w∈l
  ·rw [if_pos hwl,if_pos (by simp [hwl])]
  ·rw [if_neg hwl]
   by_cases hwv:w=v
   ·rw [if_pos hwv,if_pos (by simp [hwv])]
   ·rw [if_neg hwv,if_neg (by simp [hwl,hwv])]
section
variable (p:Qae) (f:GFun) (s:List Int)
structure CR (G B:List Bool)(T scope:List Int):Prop where
 glen:G.length=(Qaf f).length
 blen:B.length=(Qaf f).length
 tlen:T.length=(Qaf f).length
 cnt:∀ v:Int,0≤v→v<((Qaf f).length:Int)→rt T v=if gm G v=true then 1 else 0
 gown:∀ v:Int,0≤v→v<((Qaf f).length:Int)→gm G v=true→own p f v=true
 rng:∀ v∈scope,0≤v∧v<((Qaf f).length:Int)
 bnd:∀ v∈scope,own p f v=true→gm B v=true
theorem Qv1 {last:Bool}{op:Int}{cons rd:List Int}{G B:List Bool}(h:QfI f s last op cons rd G B=0):cons.all (fun v=>!rdOf f v)=true∧(cons++rd).all (fun v=>!gm G (rt s v))=true∧dupS s cons rd=true∧(op=0∨op=7∨op=8→last=true→endS G B cons=true):=by
 unfold QfI at h
 split at h
 ·rename_i h1
  split at h
  ·rename_i h2
   split at h
   ·rename_i h3
    refine ⟨h1,h2,h3,fun ho hl=>?_⟩
    rw [if_pos ho] at h
    split at h
    ·split at h
     ·rename_i h5
      rw [hl] at h5
      simpa using h5
     ·cases h
    ·cases h
   ·cases h
  ·cases h
 ·cases h
theorem CR.step {G B:List Bool}{T scope:List Int}(h:CR p f G B T scope)(hs:RInv p f s){cons rd l:List Int}(hc:Vs p f cons)(hr1:cons.all (fun v=>!rdOf f v)=true)(hr2:(cons++rd).all (fun v=>!gm G (rt s v))=true)(hr3:dupS s cons rd=true)(hl:∀ v∈l,0≤v∧v<((Qaf f).length:Int)):
  CR p f (setS true cons G) (setS true (l.filter (own p f)) B) (cons.foldl incT T) (scope++l):=by
 have hown:∀ v∈cons,own p f v=true:=fun v hv=>by
  rw [Qql]
  have:=List.all_eq_true.1 hr1 v hv
  exact ⟨(hc.rng v hv).2.2,by simpa using this⟩
 have hng:∀ v∈cons,gm G v=false:=fun v hv=>by
  have:=List.all_eq_true.1 hr2 v (by simp [hv])
  rw [((hs.at_ v (hc.rng v hv).1 (hc.rng v hv).2.1).2.2 (hown v hv))] at this
  simpa using this
 obtain ⟨a1,a2⟩:=Quz cons T (fun v hv=>⟨(hc.rng v hv).1,by rw [h.tlen]; exact (hc.rng v hv).2.1⟩) (QAR hr3) (fun v hv=>by rw [h.cnt v (hc.rng v hv).1 (hc.rng v hv).2.1,hng v hv]; rfl)
 have hgm:∀ v:Int,0≤v→v<((Qaf f).length:Int)→gm (setS true cons G) v=(decide (v∈cons)||gm G v):=fun v h0 h1=>Qw1 (fun w hw=>(hc.rng w hw).1) h0 (by rw [h.glen]; exact h1)
 refine ⟨by rw [QbJ]; exact h.glen,by rw [QbJ]; exact h.blen,by rw [a1]; exact h.tlen,fun v h0 h1=>?_,fun v h0 h1 hg=>?_,fun v hv=>?_,fun v hv ho=>?_⟩
 ·rw [a2 v h0,hgm v h0 h1,h.cnt v h0 h1]
  by_cases hm:v∈cons
  ·rw [if_pos hm,QdC hm]; rfl
  ·rw [if_neg hm,QaR hm]; rfl
 ·rw [hgm v h0 h1,Bool.or_eq_true,decide_eq_true_eq] at hg
  rcases hg with hg |hg
  ·exact hown v hg
  ·exact h.gown v h0 h1 hg
 ·rw [List.mem_append] at hv
  rcases hv with hv |hv
  ·exact h.rng v hv
  ·exact hl v hv
 ·have hrv:0≤v∧v<((Qaf f).length:Int):=by
   rw [List.mem_append] at hv
   rcases hv with hv |hv
   ·exact h.rng v hv
   ·exact hl v hv
  rw [Qw1 (fun w hw=>(hl w (List.mem_filter.1 hw).1).1) hrv.1 (by rw [h.blen]; exact hrv.2),Bool.or_eq_true,decide_eq_true_eq]
  rw [List.mem_append] at hv
  rcases hv with hv |hv
  ·exact Or.inr (h.bnd v hv ho)
  ·exact Or.inl (List.mem_filter.2 ⟨hv,ho⟩)
theorem cnt0 (n:Qag)(scope l:List Int)(hl:l.length≤1000000)(T:List Int)(hT:T.length=(Qaf f).length)(hr:∀ v∈l,0≤v∧v<((Qaf f).length:Int)):Qev T p f n scope l (l.length:Int) 0=some (l.foldl incT T):=by
 refine QaY (L:=fun T i=>Qev T p f n scope l (l.length:Int) i) (l:=l) (F:=incT) (E:=id) (fun _ T=>T.length=(Qaf f).length) (fun T i v hv hI=>?_) (fun T hI=>?_) T hT
 ·have hI':T.length=(Qaf f).length:=hI
  obtain ⟨h0,h1⟩:=hr v (List.mem_of_getElem? hv)
  rw [QiQ,Qal hv,cond_true,Qah hv,Qaa,QgM h0 (by omega),Qaa,Qan hv (by omega)]
  exact ⟨rfl,by unfold incT; simpa using hI'⟩
 ·rw [QiQ,Qap,cond_false]; rfl
theorem cnt4 (hs:RInv p f s)(T scope:List Int)(hT:T.length=(Qaf f).length)(hl:scope.length≤1000000)(hr:∀ v∈scope,0≤v∧v<((Qaf f).length:Int))(hw:∀ v∈scope,rt T v=if own p f v=true then 1 else 0):
  Qex T scope f s (scope.length:Int) 0=some (.inr ()):=by
 have h1:=Qay (L:=fun i=>Qex T scope f s (scope.length:Int) i) (l:=scope) (p:=fun v=>decide (rt T v=if own p f v=true then 1 else 0)) (A:=(.inl ():Unit⊕Unit)) (B:=.inr ()) (fun i v hv=>by
  obtain ⟨h0,h1⟩:=hr v (List.mem_of_getElem? hv)
  obtain ⟨x,hx,_,_,hrd⟩:=QhE f h0 h1
  obtain ⟨r1,r2,r3⟩:=hs.at_ v h0 h1
  have e:(bif decide (rt s v=v) then some (!x.2) else some false:Option Bool)=some (own p f v):=by
   cases ho:own p f v with
   | true=>
    rw [Qac (r3 ho)]
    rw [Qql,hrd] at ho
    rw [ho.2]; rfl
   | false=>
    by_cases hf:flV p f v=true
    ·rw [Qab (by rw [r1 hf]; omega)]
    ·have hf:flV p f v=false:=by simpa using hf
     have hx2:x.2=true:=by
      cases hx2:x.2 with
      | true=>rfl
      | false=>
       have:own p f v=true:=by rw [Qql,hrd]; exact ⟨hf,hx2⟩
       rw [ho] at this; cases this
     rw [hx2]
     cases decide (rt s v=v)<;>rfl
  rw [QiS,Qal hv,cond_true,Qah hv,Qaa,QgM h0 (by rw [hs.len]; exact h1),Qaa,show at' f.2.2.2.1 v=some x from hx,Qaa,e,Qaa,Qk3,Qaa,QgM h0 (by omega),Qaa,Qan hv (by omega)]
  cases own p f v<;>simp [Qaz]) (by rw [QiS,Qap,cond_false])
 rw [h1,if_pos (List.all_eq_true.2 fun v hv=>by rw [decide_eq_true_eq]; exact hw v hv)]
theorem Qw2 {g:Int×List Int→Int×Int}:∀ {l:List (Int×List Int)},(visL g l).2=0→∀ x∈l,(g x).2=0
 | [],h,x,hx=>by cases hx
 | y::l,h,x,hx=>by
  rw [visL] at h
  split at h
  ·rename_i h0
   rw [List.mem_cons] at hx
   rcases hx with rfl |hx
   ·exact h0
   ·exact Qw2 h x hx
  ·rename_i h0; exact absurd h h0
theorem cnt2 (T scope:List Int)(bs:List Qa2)(hl:bs.length≤1000000)(hsl:scope.length≤1000000)(hb:∀ b∈bs,b.1.length≤1000000∧QdN p f b.2 T (scope++b.1)=some true):∀ (r pre:List Qa2),bs=pre++r→
  Qew T p f scope bs (bs.length:Int) (pre.length:Int)=some (.inr ()):=by
 intro r
 induction r with
 | nil=>
  intro pre h
  rw [QiR]
  subst h
  rw [Qem (Qgw pre)]
 | cons b r ih=>
  intro pre h
  have hlen:bs.length=pre.length+(r.length+1):=by rw [h]; simp
  have e2:bs[pre.length]?=some b:=by rw [h]; simp
  have e3:Ev.wr .i64 ((pre.length:Int)+1)=((pre++[b]).length:Int):=by rw [Sy.QbK (by omega)]; simp
  obtain ⟨hb1,hb2⟩:=hb b (List.mem_of_getElem? e2)
  rw [QiR,Qal e2,cond_true,Qah e2,Qaa,Qac (show scope.length * 8≤35184372088832 by omega),Qac (show (scope.length+b.1.length) * 8≤35184372088832 by omega),hb2,Qaa,cond_true,e3]
  exact ih (pre++[b]) (by rw [h]; simp)
theorem QCp (hp:Qcq p)(hk:HOk p f)(hf:QjD f)(hs:RInv p f s)(hroot:Qd4 p f=some s)(hvl:(Qaf f).length≤1000):∀ (d:Nat) (sc:List Bool) (k:Int) (G B:List Bool) (T scope:List Int),Ok p f d sc k→(visS p f s true d G B k).2=0→CR p f G B T scope→scope.length+1000 * d≤900000→
  QdN p f k T scope=some true:=by
 intro d
 induction d with
 | zero=>intro sc k G B T scope h; exact absurd h id
 | succ d ih=>
  intro sc k G B T scope ho hv hcr hsl
  obtain ⟨h0,hsc,n,hn,hno,hkb⟩:=ho
  have hsm:=hf.nodes n (List.mem_of_getElem? hn)
  have hat:at' f.2.2.2.2.1 k=some n:=Qhc h0 hn
  have hc:=hno.cons hsm hsc
  have hcl:=hc.len
  have hbl:=hno.len
  have hkl:=QgL n hsm
  have hbrl:=hsm.br
  have htl:=hcr.tlen
  rw [visS,hn] at hv
  simp only at hv
  split at hv
  ·rename_i hr
   obtain ⟨r1,r2,r3,r4⟩:=Qv1 f s hr
   have hkid:∀ x∈kb n,QdN p f x.1 ((Qad p f n).foldl incT T) (scope++x.2)=some true:=fun x hx=>by
    have hxl:x.2.length≤(binds n).length:=QsY (k:=x.1) (l:=x.2) hx
    exact ih _ x.1 _ _ _ _ (hkb x hx) (Qw2 hv x hx) (hcr.step p f s hs hc r1 r2 r3 (fun v hv=>hno.rng v (Qf9 (k:=x.1) (l:=x.2) hx v hv))) (by rw [List.length_append]; omega)
   rw [QqN,hat,Qaa,Qac (show T.length * 8≤35184372088832 by omega),Qgp p f hp hk n hsm hno hsc,Qaa,cnt0 p f n scope _ (by omega) T htl (fun v hv=>⟨(hc.rng v hv).1,(hc.rng v hv).2.1⟩),Qaa]
   by_cases h9:nOp n=9
   ·have hkbe:kb n=(nBr n).map fun b=>(b.2,b.1):=by unfold kb; rw [if_pos h9]
    rw [Qac h9]
    have:=cnt2 p f ((Qad p f n).foldl incT T) scope (nBr n) (by omega) (by omega) (fun b hb=>by
     have hm:(b.2,b.1)∈kb n:=by rw [hkbe]; exact List.mem_map.2 ⟨b,hb,rfl⟩
     have hle:=QsY hm
     exact ⟨by omega,hkid _ hm⟩) (nBr n) [] rfl
    rw [show Qew ((Qad p f n).foldl incT T) p f scope n.2.2.2.2.2.2.2.2.1 (n.2.2.2.2.2.2.2.2.1.length:Int) 0=_ from this,Qaa]
   ·have hkbe:kb n=(kids n).map fun k=>(k,binds n):=by unfold kb; rw [if_neg h9]
    rw [Qab h9,Qac (show scope.length * 8≤35184372088832 by omega),QvN n hsm,Qaa,Qac (show (scope.length+(binds n).length) * 8≤35184372088832 by omega),Quf n hsm,Qaa]
    by_cases hz:(0:Int)<((kids n).length:Int)
    ·obtain ⟨k1,hk1,hk1'⟩:=Qhy (l:=kids n) (i:=0) (by omega) hz
     rw [Qac hz,hk1,Qaa,hkid (k1,binds n) (by rw [hkbe]; exact List.mem_map.2 ⟨k1,List.mem_of_getElem? hk1',rfl⟩),Qaa]
    ·have hop:=hno.op
     have hend:nOp n=0∨nOp n=7∨nOp n=8:=by
      by_cases hx:QsS (nOp n)=true
      ·exfalso
       refine hz ?_
       unfold kids
       rw [if_neg h9,if_pos hx]
       exact Int.zero_lt_one
      ·unfold QsS at hx
       rw [decide_eq_true_eq] at hx
       omega
     have hcr2:=hcr.step p f s hs hc r1 r2 r3 (l:=binds n) (fun v hv=>hno.rng v hv)
     have hb0:binds n=[]:=by
      unfold binds Qlp
      rw [if_neg h9,if_neg (by rw [decide_eq_true_eq]; omega)]
     have hes:=r4 hend rfl
     rw [Qab hz,hroot,Qaa,cnt4 p f s hs _ _ hcr2.tlen (by rw [List.length_append]; omega) hcr2.rng (fun v hv=>by
      obtain ⟨v0,v1⟩:=hcr2.rng v hv
      rw [hcr2.cnt v v0 v1]
      cases ho:own p f v with
      | false=>
       rw [if_neg (show ¬ (false=true) by simp),if_neg]
       intro hg
       have:=hcr2.gown v v0 v1 hg
       rw [ho] at this
       cases this
      | true=>
       rw [if_pos rfl,if_pos]
       rw [Qw1 (fun w hw=>(hc.rng w hw).1) v0 (by rw [hcr.glen]; exact v1)]
       rw [hb0,List.append_nil] at hv
       have hB:=hcr.bnd v hv ho
       rw [Qw0] at hB
       have:=Qk8 _ 0 v.toNat hes true hB
       rw [Nat.zero_add,Int.toNat_of_nonneg v0] at this
       cases hx:decide (v∈Qad p f n) with
       | true=>rfl
       | false=>
        rw [hx] at this
        simpa using this),Qaa]
  ·rename_i hr; exact absurd hv hr
end
theorem QE7 (p:Qae)(f:GFun)(m:Nat)(hm:m≤(Qaf f).length):CR p f (G0 f) (B0 p f m) (List.replicate (Qaf f).length 0) (Qhu m):=by
 have hg:∀ v:Int,gm (G0 f) v=false:=fun v=>by
  unfold gm G0
  rw [List.getElem?_replicate]
  split<;>rfl
 have hr:∀ v∈Qhu m,0≤v∧v<((Qaf f).length:Int):=fun v hv=>by rw [Qqq] at hv; omega
 refine ⟨QkJ f,QkK p f m,by simp,fun v h0 h1=>?_,fun v h0 h1 h=>(by rw [hg] at h; cases h),hr,fun v hv ho=>?_⟩
 ·rw [hg,if_neg (by simp)]
  unfold rt
  rw [List.getElem?_replicate]
  split
  ·rename_i r hx
   split at hx
   ·simpa using hx.symm
   ·cases hx
  ·rfl
 ·unfold B0
  rw [Qw1 (fun w hw=>(hr w (List.mem_filter.1 hw).1).1) (hr v hv).1 (by rw [QkJ]; exact (hr v hv).2),Bool.or_eq_true,decide_eq_true_eq]
  exact Or.inl (List.mem_filter.2 ⟨hv,ho⟩)
theorem QE8 (p:Qae)(f:GFun)(i0:Int)(m:Nat)(hm:fPar f=(m:Int))(hl:m≤1000000):Qbs ([]:List Int) p f i0 0=some (Qhu m):=by
 have key:∀ (j i:Nat),i+j=m→Qbs (Qhu i) p f i0 (i:Int)=some (Qhu m):=by
  intro j
  induction j with
  | zero=>
   intro i h
   obtain rfl:i=m:=by omega
   rw [Qed,Qab (show ¬ (i:Int)<fPar f by omega)]
  | succ j ih=>
   intro i h
   have:=QkI i
   rw [Qed,Qac (show (i:Int)<fPar f by omega),Qac (by omega),← QnA,Sy.QbK (by omega)]
   exact ih (i+1) (by omega)
 exact key m 0 (by omega)
theorem QrG (p:Qae)(hp:FewP p)(h0:chk p=0):∀ (j i:Nat),i+j=p.2.length→QaQ p (i:Int)=some (.inl ())
 | 0,i,h=>by
  rw [Qec,Qab (by omega)]
 | j+1,i,h=>by
  have hl:=hp.funs
  obtain ⟨f,hf,hf'⟩:=Qhy (l:=p.2) (i:=(i:Int)) (by omega) (by omega)
  rw [Int.toNat_natCast] at hf'
  have hfe:=hp.few f (List.mem_of_getElem? hf')
  have hcl:=hfe.code
  have hvl:=hfe.vars
  have ho:=QFF p _ f (QCg h0 _ f hf')
  have hsf:=hp.small.all f (List.mem_of_getElem? hf')
  obtain ⟨p0,p1⟩:=ho.hok.par
  obtain ⟨s,hs,a1,a2,a3⟩:=Qyi p f hp.small i hf' ho hfe
  obtain ⟨b1,_⟩:=a3 true
  have hC:Qhm p (i:Int)=some (chkO p f s true):=by
   rw [QmC,QwV p hp.small,Qaa,Qac h0]
   simp only [Qai,Qaa,Qb9]
   rw [QaR (show ¬ (i:Int)<0 by omega),QdC (show (i:Int)<(p.2.length:Int) by omega)]
   rw [Bool.false_or,Bool.not_true,cond_false,a1,Qaa]
   dsimp only
   rw [b1,Qaa]
  rw [Qec,Qac (by omega),hf,Qaa,hC,Qaa,Sy.QbK (by omega),QrG p hp h0 j (i+1) (by omega)]
  cases hc:chkO p f s true with
  | mk a e=>
   dsimp only
   by_cases he:e=0
   ·rw [Qac he]
    cases hx:fExt f with
    | true=>rw [show f.2.2.2.2.2.2=true from hx]; rfl
    | false=>
     rw [show f.2.2.2.2.2.2=false from hx,Qaa,cond_false]
     have hm:fPar f=((fPar f).toNat:Int):=by omega
     have hv:(visS p f s true ((QaL f).length+1) (G0 f) (B0 p f (fPar f).toNat) (Qdj f)).2=0:=by
      unfold chkO at hc
      rw [if_neg (by rw [hx]; simp)] at hc
      rw [hc]; exact he
     have:=QCp p f s hp.small ho.hok hsf hs a2 (by omega) _ _ _ _ _ _ _ (ho.body hx) hv (QE7 p f (fPar f).toNat (by omega)) (by rw [QkI]; omega)
     rw [QE8 p f _ _ hm (by omega),Qaa,Qab (by omega),Qac (by rw [Int.toNat_natCast]; show (Qaf f).length * 8≤140737488355328; omega),Int.toNat_natCast,show QdN p f f.2.2.2.2.2.1 (List.replicate f.2.2.2.1.length 0) (Qhu (fPar f).toNat)=_ from this,Qaa,cond_true]
   ·rw [Qab he]; rfl
theorem paths (hawake:QlO=some true)(p:Qae)(hb:QDR p):Qeh p=some true:=by
 rw [Qjo,hawake,Qaa,cond_true]
 obtain ⟨b,h1,h2⟩:=QCo p hb
 rw [h1,Qaa]
 cases b with
 | false=>rfl
 | true=>
  have hp:=h2 rfl
  rw [cond_true,QwV p hp.small,Qaa,Qaa]
  by_cases h0:chk p=0
  ·have:=QrG p hp h0 p.2.length 0 (by omega)
   rw [QdC h0,Bool.not_true,cond_false,show QaQ p 0=_ from this,Qaa]
  ·rw [QaR h0]; rfl
end Go.Proofs.YtkecfadnfnnfaaaGreatDoor.LabB.O
