import Derived.Test.YtmhoikfoogemnaaGreatDoorMEb
namespace Go.Proofs.YtmhoikfoogemnaaGreatDoor
open Go Go.RowKit Go.Vc
set_option linter.unusedVariables false
set_option linter.unusedSimpArgs false
def tm (s:List UInt8) (c:Int):GLin:=if s=[]then⟨c,[]⟩else if c=0 then⟨0,[]⟩else⟨0,[⟨s,c⟩]⟩
structure LinI (l:GLin) (n:Nat):Prop where
 ok:mL l
 wf:Wf l
 len:l.L.length≤n
theorem LinI.mono {l:GLin} {n m:Nat} (h:LinI l n) (hm:n≤m):LinI l m:=⟨h.ok,h.wf,Nat.le_trans h.len hm⟩
theorem R0:jO 0:=⟨by omega,by omega⟩
theorem LinI.const {k:Int} (h:jO k) (n:Nat):LinI ⟨k,[]⟩ n:=⟨⟨by intro m hm;simp at hm,List.Pairwise.nil⟩,⟨h,by intro m hm;simp at hm,by simp⟩,by simp⟩
theorem uC {s:List UInt8} (h:eT s=true):s≠[]:=by rintro rfl;simp[eT]at h
theorem LinI.one {s:List UInt8} {c:Int} (h:eT s=true) (hc:jO c) (h0:c≠0):LinI ⟨0,[⟨s,c⟩]⟩ 1:=
 ⟨⟨by intro m hm;rw[List.mem_singleton.1 hm];exact⟨h,h0⟩,List.pairwise_singleton _ _⟩,⟨R0,by intro m hm;rw[List.mem_singleton.1 hm];exact hc,by simp⟩,by simp⟩
theorem tm_I {s:List UInt8} {c:Int} (h:s=[]∨eT s=true) (hc:jO c):LinI (tm s c) 1:=by
 unfold tm
 split
 ·exact .const hc 1
 ·next h1=>
  split
  ·exact .const R0 1
  ·next h2=>exact .one (h.resolve_left h1) hc h2
theorem xM {s:List UInt8} (h:eT s=true):k0 s=some ⟨0,[⟨s,1⟩]⟩∧fo s=some ⟨0,[⟨s,1⟩]⟩:=by
 unfold k0 fo
 rw[qA,jq,h];exact⟨rfl,rfl⟩
theorem lO {l:GLin} {n:Nat} (h:LinI l n) (hn:n≤1000000):jD l=some 0:=by
 obtain⟨b,b0,_,b2⟩:=ld l (by have:=h.len;omega)
 unfold jD
 rw[b2,b0.2 h.ok];rfl
theorem rT {s:List UInt8} {c:Int} (h:eT s=true) (hc:jO c):iv ⟨0,[⟨s,1⟩]⟩ c=some (tm s c,0)∧iu ⟨0,[⟨s,1⟩]⟩ c=some (tm s c,0):=by
 have hI:=LinI.one (c:=1) h ⟨by omega,by omega⟩ (by omega)
 have hne:=uC h
 by_cases h0:c=0
 ·subst h0
  obtain⟨b,b0,b1,b2⟩:=ld ⟨0,[⟨s,1⟩]⟩ (by simp)
  unfold iv iu tm
  rw[b1,if_pos (b0.2 hI.ok),lO hI (by omega),if_neg hne]
  exact⟨rfl,rfl⟩
 ·have et:tm s c=⟨0,[⟨s,c⟩]⟩:=by unfold tm;rw[if_neg hne,if_neg h0]
  refine⟨?_,?_⟩
  ·obtain⟨r,h1,h2⟩:=DJ _ c hI.ok hI.wf hc h0 (by simp)
   rw[h1,et]
   rcases h2 with⟨rfl,_,_⟩ | ⟨_,h2⟩
   ·simp[H7]
   ·exact absurd ⟨by simpa using R0,by intro m hm;rw[List.mem_singleton.1 hm];simpa using hc⟩ h2
  ·unfold iu
   rw[lO hI (by omega),Option.bind_some,if_neg (by simp),if_neg (by simpa using h0),pg R0 hc,Int.zero_mul,if_pos R0,Option.bind_some,if_neg (by simp)]
   obtain⟨g,hg⟩:∃ g,fu=g+1+1:=⟨fu - 2,by unfold fu;omega⟩
   rw[hg]
   simp only[kU]
   rw[if_pos (by simp)]
   show(some (⟨s,1⟩:GMono)).bind _ =_
   rw[Option.bind_some]
   show(jZ 1 c).bind _ =_
   rw[pg ⟨by omega,by omega⟩ hc,Int.one_mul,if_pos hc,Option.bind_some,if_neg (by simp)]
   show(some (⟨s,1⟩:GMono)).bind _ =_
   rw[Option.bind_some,cK (by simp),Option.bind_some,show az (0+1)=1 from rfl,if_neg (by simp),et]
   rfl
theorem zg {c:Int} (hc:jO c):iu ⟨1,[]⟩ c=some (tm [] c,0):=by
 have hI:=LinI.const (k:=1) ⟨by omega,by omega⟩ 1
 unfold iu tm
 rw[lO hI (by omega),Option.bind_some,if_neg (by simp),if_pos rfl]
 by_cases h0:c=0
 ·subst h0;rfl
 ·rw[if_neg (by simpa using h0)]
  show(jZ 1 c).bind _ =_
  rw[pg ⟨by omega,by omega⟩ hc,Int.one_mul,if_pos hc,Option.bind_some,if_neg (by simp)]
  obtain⟨g,hg⟩:∃ g,fu=g+1:=⟨fu - 1,by unfold fu;omega⟩
  rw[hg]
  simp only[kU]
  rw[if_neg (by simp)]
theorem DN {f x:GLin} {n:Nat} (hf:LinI f n) (hx:LinI x 1) (hn:n<99999):
  ∃ r,gr f x=some r∧nZ f x=some r∧((r.2=0∧LinI r.1 (n+1))∨r=(⟨0,[]⟩,3)):=by
 have h1:=hf.len
 have h2:=hx.len
 obtain⟨r,e1,e2⟩:=GX f x hf.ok hx.ok hf.wf hx.wf (by omega)
 have hsame:∀ nm,jw x.L nm=match x.L with | []=>0 | m:: _=>if m.Name=nm then m.By else 0:=fun nm=>by
  match hxl:x.L,h2 with
  | [],_=>rfl
  | [m],_=>simp only[jw]
 have key:wG (fun n=>jw f.L n+jw x.L n) ((nM x.L).foldl jP (nM f.L))=n7 f.L x.L∧(Da (fun n=>jw f.L n+jw x.L n) ((nM x.L).foldl jP (nM f.L))↔rU f.L x.L):=by
  have hfc:∀ y∈f.L,jw f.L y.Name=y.By:=by
   have go:∀ (l:List GMono),DL l→∀ y∈l,jw l y.Name=y.By:=by
    intro l
    induction l with
    | nil=>intro _ y hy;cases hy
    | cons z l ih=>
     intro h y hy
     obtain⟨p1,p2⟩:=List.pairwise_cons.1 h
     simp only[jw]
     rcases List.mem_cons.1 hy with rfl | hy
     ·rw[if_pos rfl]
     ·rw[if_neg (yW (p1 y hy))];exact ih p2 y hy
   exact go f.L hf.ok.2
  match hxl:x.L,h2 with
  | [],_=>
   simp only[nM,List.map_nil,List.foldl_nil,tT]
   refine⟨zd fun y hy=>⟨by show jw f.L y.Name+jw [] y.Name=_;rw[hfc y hy];simp[jw],(hf.ok.1 y hy).2⟩,fun _=>rl _,fun _=>zD fun y hy=>⟨by show jw f.L y.Name+jw [] y.Name=_;rw[hfc y hy];simp[jw],hf.wf.b y hy⟩⟩
  | [m],_=>
   have hm:m∈x.L:=by rw[hxl];simp
   refine CF m _ (hx.ok.1 m hm).2 (hx.wf.b m hm) f.L hf.ok.2 (fun y hy=>⟨(hf.ok.1 y hy).2,hf.wf.b y hy⟩) (fun y hy=> ?_) (fun hni=> ?_)
   ·show jw f.L y.Name+jw [m] y.Name=_
    rw[hfc y hy];simp only[jw];congr 1;by_cases c:m.Name=y.Name
    ·rw[if_pos c,if_pos c.symm]
    ·rw[if_neg c,if_neg (fun e=>c e.symm)]
   ·show jw f.L m.Name+jw [m] m.Name=_
    rw[BI hni];simp[jw]
 have hK:=ql hf.wf.k hx.wf.k
 have hns:((nM x.L).foldl jP (nM f.L)).length<1000000:=by
  have len:∀ (l:List (List UInt8)) (s:List UInt8),(jP l s).length≤l.length+1:=by
   intro l s
   induction l with
   | nil=>simp[jP]
   | cons y l ih=>
    simp only[jP]
    split
    ·simp only[List.length_cons];omega
    ·split<;>simp
  match hxl:x.L,h2 with
  | [],_=>simp only[nM,List.map_nil,List.foldl_nil,List.length_map];omega
  | [m],_=>simp only[nM,List.map_cons,List.map_nil,List.foldl_cons,List.foldl_nil];have:=len (f.L.map (·.Name)) m.Name;rw[List.length_map]at this;omega
 obtain⟨r1,r2⟩:=EA ((nM x.L).foldl jP (nM f.L)) f x (f.K+x.K) hf.wf.b hx.wf.b (by omega) (by omega) hns
 have eR:nZ f x=some r:=by
  unfold nZ
  rw[lO hf (by omega),lO hx (by omega)]
  simp only[gd,decide_true,Bool.not_true,Bool.not_false,if_true,Option.bind_some,Bool.or_false,Bool.false_eq_true,if_false]
  rw[hK,Option.bind_some]
  rcases e2 with⟨rfl,q1,q2⟩ | ⟨rfl,q⟩
  ·rw[if_pos q1,if_neg (by simp),yY hf.ok.2 h2 (by omega),Option.bind_some]
   dsimp only
   rw[r1 (key.2.2 q2),key.1]
  ·by_cases q1:jO (f.K+x.K)
   ·rw[if_pos q1,if_neg (by simp),yY hf.ok.2 h2 (by omega),Option.bind_some]
    dsimp only
    rw[r2 (fun h=>q ⟨q1,key.2.1 h⟩)]
   ·rw[if_neg q1,if_pos (by simp)]
 refine⟨r,e1,eR,?_⟩
 rcases e2 with⟨rfl,q1,q2⟩ | ⟨rfl,q⟩
 ·left
  have all:∀ m∈n7 f.L x.L,(eT m.Name=true∧m.By≠0)∧jO m.By:=Eh (P:=fun m=>(eT m.Name=true∧m.By≠0)∧jO m.By) (fun y z h1 h2 _ _ hr h0=>⟨⟨h1.1.1,h0⟩,hr⟩) f.L x.L q2 (fun m hm=>⟨hf.ok.1 m hm,hf.wf.b m hm⟩) (fun m hm=>⟨hx.ok.1 m hm,hx.wf.b m hm⟩)
  have hle:=Ef f.L x.L
  exact⟨rfl,⟨⟨fun m hm=>(all m hm).1,Eg _ _ hf.ok.2 hx.ok.2⟩,⟨q1,fun m hm=>(all m hm).2,by show(n7 f.L x.L).length≤ _;omega⟩,by show(n7 f.L x.L).length≤ _;omega⟩⟩
 ·exact .inr rfl
end Go.Proofs.YtmhoikfoogemnaaGreatDoor
