import Derived.Test.YtkcbaokljkalcaaGreatBy2H1
import Derived.Test.YtkcbaokljkalcaaGreatBy2H2
import Derived.Test.YtkcbaokljkalcaaGreatBy2H8
set_option linter.unusedVariables false
set_option linter.unusedSimpArgs false
set_option linter.defProp false
namespace Go.AX
open Go.Proofs Go.RowKit
set_option maxRecDepth 1000000
set_option maxHeartbeats 40000000
set_option linter.unusedSimpArgs false
set_option linter.unusedVariables false
theorem qm4 {f:FuncId} {args:List AV} {v:AV} (ha:args.all WC=true) (hf:qxe v=true) (h:∀ kr kp:AV→St→Bool,(∀ s',kr v s'=true)→(sem Tryz.prog).call f args st0 kr kp=true)
  {s:St} {kr kp:AV→St→Bool} (hk:kr v s=true):(sem Tryz.prog).call f args s kr kp=true:=by
 refine sem_call.2 fun w0 w E Args R Rp hv hs hkr hkp=>?_
 obtain⟨h1,h2⟩:=Yo ha hf h hv hs
 refine⟨h1,CallsIn.mono h2 ?_⟩
 rintro en w' ⟨V,E',rfl,hE,hV,hS⟩
 exact hkr E' v s V w' hE hV hS hk
theorem qjt {f:FuncId} {args:List AV} {names:List (List Nat)} (hn:names≠[]) (ha:args.all WC=true) (h:∀ kr kp:AV→St→Bool,(∀ V s',SlR 9 (fun _=>True) s' V names→kr V s'=true)→(sem Tryz.prog).call f args st0 kr kp=true)
  {s:St} {kr kp:AV→St→Bool} (hk:kr (JA 9 names s).1 (JA 9 names s).2=true):(sem Tryz.prog).call f args s kr kp=true:=by
 refine sem_call.2 fun w0 w E Args R Rp hv hs hkr hkp=>?_
 obtain⟨h1,h2⟩:=qat (ty:=9) (s:=s) hn ha h hv hs
 refine⟨h1,CallsIn.mono h2 ?_⟩
 rintro en w' ⟨V,E',rfl,hE,hV,hS⟩
 exact hkr E' _ _ V w' hE hV hS hk
theorem zL {k:Nat} (h:k≤4000000000000000000):IntKind.i64.wrap ((k:Int)+1)=((k+1:Nat):Int):=by
 rw[show (k:Int)+1=((k+1:Nat):Int) from by simp]
 exact qU (by omega)
theorem Yd {a b:Nat} (h:a < b):decide ((a:Int) < (b:Int))=true:=by rw[decide_eq_true_eq];omega
theorem QO {a b:Nat} (h:¬ a < b):decide ((a:Int) < (b:Int))=false:=by rw[decide_eq_false_iff_not];omega
def qvo:List Nat→Bool→Bool
 | [],b=>b
 | c::l,b=>qvo l (bif b then true else bif Nat.beq c 47 then true else Nat.beq c 0)
theorem Wt {c d:Nat}:((c:Int)==(d:Int))=Nat.beq c d:=by
 cases h:Nat.beq c d with
 | true=>have:=Nat.eq_of_beq_eq_true h;subst this;simp
 | false =>
  rw[beq_eq_false_iff_ne]
  intro e
  have:c=d:=by omega
  rw[this,Nat.beq_refl] at h
  cases h
def qg6 (b:List Nat):Int:=bif eqB b [] then 400 else bif qvo b (bif eqB b [46] then true else bif eqB b [46,46] then true else decide ((b.length:Int) > 16)) then 401 else 0
theorem qwg {s:St} (H:Ok TE Tryz.prog pr3) {b:List Nat} (hb:b.length≤1048576) {kr kp:AV→St→Bool} (hk:kr (.raw (.int .i64 (qg6 b))) s=true):(sem Tryz.prog).call 131 [.str b] s kr kp=true:=by
 refine qp H 38 qzc rfl rfl ?_
 unfold qg6 at hk
 cases h0:eqB b [] with
 | true =>
  rw[h0,cond_true] at hk
  repeat (first|with_reducible (refine q9 H ?_;constructor)|simp only[rB,rP,rQ,q8,qa,q7,qb,reduceIte,reduceCtorEq,Nat.reduceAdd,Nat.reduceLT,Nat.reduceEqDiff,UInt8.reduceToNat,pe3,pf3,zz,h0,Tryz.results131])
  exact hk
 | false =>
 rw[h0,cond_false] at hk
 obtain⟨bad,hbad⟩:∃ x:Bool,(bif eqB b [46] then true else bif eqB b [46,46] then true else decide ((b.length:Int) > 16))=x:=⟨_,rfl⟩
 rw[hbad] at hk
 have key:(eqB b [46]=true∧eqB b [46]=true∧eqB b [46]=true∧bad=true)∨(eqB b [46]=false∧eqB b [46,46]=true∧eqB b [46,46]=true∧bad=true)∨(eqB b [46]=false∧eqB b [46,46]=false∧decide ((b.length:Int) > 16)=bad∧bad=bad):=by
  cases h1:eqB b [46] with
  | true=>rw[h1] at hbad;exact Or.inl ⟨rfl,rfl,rfl,hbad.symm⟩
  | false =>
   cases h2:eqB b [46,46] with
   | true=>rw[h1,h2] at hbad;exact Or.inr (Or.inl ⟨rfl,rfl,rfl,hbad.symm⟩)
   | false=>rw[h1,h2] at hbad;exact Or.inr (Or.inr ⟨rfl,rfl,hbad,rfl⟩)
 rcases key with⟨h1,h2,h3,rfl⟩|⟨h1,h2,h3,rfl⟩|⟨h1,h2,h3,-⟩
 all_goals
  repeat (first|with_reducible (refine q9 H ?_;constructor)|simp only[rB,rP,rQ,q8,qa,q7,qb,reduceIte,reduceCtorEq,Nat.reduceAdd,Nat.reduceLT,Nat.reduceEqDiff,UInt8.reduceToNat,pe3,pf3,zz,h0,h1,h2,h3,ql,zD])
  refine qB H (fun n t s'=>∃ (k:Nat) (bd:Bool),n+k=b.length∧s'=s∧tg t 0=.str b∧tg t 3=.raw (.bool bd)∧tg t 4=.raw (.int .i64 (k:Int))∧qvo b _=qvo (b.drop k) bd) (n:=b.length)
   ⟨0,_,rfl,rfl,by simp only[rB,rP,rQ,q8,qa,q7,qb,reduceIte,reduceCtorEq,Nat.reduceAdd,Nat.reduceLT,Nat.reduceEqDiff,UInt8.reduceToNat],by simp only[rB,rP,rQ,q8,qa,q7,qb,reduceIte,reduceCtorEq,Nat.reduceAdd,Nat.reduceLT,Nat.reduceEqDiff,UInt8.reduceToNat];rfl,by simp only[rB,rP,rQ,q8,qa,q7,qb,reduceIte,reduceCtorEq,Nat.reduceAdd,Nat.reduceLT,Nat.reduceEqDiff,UInt8.reduceToNat];rfl,rfl⟩ ?_
  rintro n t s' ih ⟨k,bd,hn,rfl,t0,t3,t4,hrun⟩
  cases n with
  | zero =>
   have g0:=QO (a:=k) (b:=b.length) (by omega)
   rw[List.drop_eq_nil_of_le (by omega)] at hrun
   rw[hrun] at hk
   cases bd with
   | true =>
    repeat (first|with_reducible (refine q9 H ?_;constructor)|simp only[rB,rP,rQ,q8,qa,q7,qb,reduceIte,reduceCtorEq,Nat.reduceAdd,Nat.reduceLT,Nat.reduceEqDiff,UInt8.reduceToNat,pe3,pf3,t0,t3,t4,ql,zJ,g0,Tryz.results131])
    exact hk
   | false =>
    repeat (first|with_reducible (refine q9 H ?_;constructor)|simp only[rB,rP,rQ,q8,qa,q7,qb,reduceIte,reduceCtorEq,Nat.reduceAdd,Nat.reduceLT,Nat.reduceEqDiff,UInt8.reduceToNat,pe3,pf3,t0,t3,t4,ql,zJ,g0,Tryz.results131])
    exact hk
  | succ n =>
   have hlt:k < b.length:=by omega
   have g0:=Yd hlt
   have ew:=zL (k:=k) (by omega)
   rw[List.drop_eq_getElem_cons hlt] at hrun
   have hx:b[k]?=some b[k]:=List.getElem?_eq_getElem hlt
   generalize b[k]=x at hx hrun
   have ix:=qq7 hx
   have g47:((x:Int)==47)=Nat.beq x 47:=Wt
   have gz:((x:Int)==0)=Nat.beq x 0:=Wt
   simp only[qvo] at hrun
   cases bd with
   | true =>
    repeat (first|with_reducible (refine q9 H ?_;constructor)|simp only[rB,rP,rQ,q8,qa,q7,qb,reduceIte,reduceCtorEq,Nat.reduceAdd,Nat.reduceLT,Nat.reduceEqDiff,UInt8.reduceToNat,pe3,pf3,t0,t3,t4,ql,zJ,g0,qI,ew])
    exact ih n _ _ (Nat.lt_succ_self n) ⟨k+1,true,by omega,rfl,by simp only[rB,rP,rQ,q8,qa,q7,qb,reduceIte,reduceCtorEq,Nat.reduceAdd,Nat.reduceLT,Nat.reduceEqDiff,UInt8.reduceToNat,t0],by simp only[rB,rP,rQ,q8,qa,q7,qb,reduceIte,reduceCtorEq,Nat.reduceAdd,Nat.reduceLT,Nat.reduceEqDiff,UInt8.reduceToNat],by simp only[rB,rP,rQ,q8,qa,q7,qb,reduceIte,reduceCtorEq,Nat.reduceAdd,Nat.reduceLT,Nat.reduceEqDiff,UInt8.reduceToNat],hrun⟩
   | false =>
    cases h47:Nat.beq x 47 with
    | true =>
     rw[h47] at hrun
     repeat (first|with_reducible (refine q9 H ?_;constructor)|simp only[rB,rP,rQ,q8,qa,q7,qb,reduceIte,reduceCtorEq,Nat.reduceAdd,Nat.reduceLT,Nat.reduceEqDiff,UInt8.reduceToNat,pe3,pf3,t0,t3,t4,ql,zJ,g0,qI,ew,ix,qr,g47,h47])
     exact ih n _ _ (Nat.lt_succ_self n) ⟨k+1,true,by omega,rfl,by simp only[rB,rP,rQ,q8,qa,q7,qb,reduceIte,reduceCtorEq,Nat.reduceAdd,Nat.reduceLT,Nat.reduceEqDiff,UInt8.reduceToNat,t0],by simp only[rB,rP,rQ,q8,qa,q7,qb,reduceIte,reduceCtorEq,Nat.reduceAdd,Nat.reduceLT,Nat.reduceEqDiff,UInt8.reduceToNat],by simp only[rB,rP,rQ,q8,qa,q7,qb,reduceIte,reduceCtorEq,Nat.reduceAdd,Nat.reduceLT,Nat.reduceEqDiff,UInt8.reduceToNat],hrun⟩
    | false =>
     rw[h47] at hrun
     cases hz:Nat.beq x 0 with
     | true =>
      rw[hz] at hrun
      repeat (first|with_reducible (refine q9 H ?_;constructor)|simp only[rB,rP,rQ,q8,qa,q7,qb,reduceIte,reduceCtorEq,Nat.reduceAdd,Nat.reduceLT,Nat.reduceEqDiff,UInt8.reduceToNat,pe3,pf3,t0,t3,t4,ql,zJ,g0,qI,ew,ix,qr,g47,h47,gz,hz])
      exact ih n _ _ (Nat.lt_succ_self n) ⟨k+1,true,by omega,rfl,by simp only[rB,rP,rQ,q8,qa,q7,qb,reduceIte,reduceCtorEq,Nat.reduceAdd,Nat.reduceLT,Nat.reduceEqDiff,UInt8.reduceToNat,t0],by simp only[rB,rP,rQ,q8,qa,q7,qb,reduceIte,reduceCtorEq,Nat.reduceAdd,Nat.reduceLT,Nat.reduceEqDiff,UInt8.reduceToNat],by simp only[rB,rP,rQ,q8,qa,q7,qb,reduceIte,reduceCtorEq,Nat.reduceAdd,Nat.reduceLT,Nat.reduceEqDiff,UInt8.reduceToNat],hrun⟩
     | false =>
      rw[hz] at hrun
      repeat (first|with_reducible (refine q9 H ?_;constructor)|simp only[rB,rP,rQ,q8,qa,q7,qb,reduceIte,reduceCtorEq,Nat.reduceAdd,Nat.reduceLT,Nat.reduceEqDiff,UInt8.reduceToNat,pe3,pf3,t0,t3,t4,ql,zJ,g0,qI,ew,ix,qr,g47,h47,gz,hz])
      exact ih n _ _ (Nat.lt_succ_self n) ⟨k+1,false,by omega,rfl,by simp only[rB,rP,rQ,q8,qa,q7,qb,reduceIte,reduceCtorEq,Nat.reduceAdd,Nat.reduceLT,Nat.reduceEqDiff,UInt8.reduceToNat,t0],by simp only[rB,rP,rQ,q8,qa,q7,qb,reduceIte,reduceCtorEq,Nat.reduceAdd,Nat.reduceLT,Nat.reduceEqDiff,UInt8.reduceToNat],by simp only[rB,rP,rQ,q8,qa,q7,qb,reduceIte,reduceCtorEq,Nat.reduceAdd,Nat.reduceLT,Nat.reduceEqDiff,UInt8.reduceToNat],hrun⟩
theorem qzh {b:List Nat} {l h:Nat} (h1:l≤h) (h2:h≤b.length):qF TE 9 (.str b) (some (.raw (.int .i64 (l:Int)))) (some (.raw (.int .i64 (h:Int)))) none=some (.str ((b.drop l).take (h - l))):=by
 rw[Ym]
 simp only[qA,zC,Nat.ble_eq.mpr h1,Nat.ble_eq.mpr h2,Bool.and_self,cond_true]
theorem q0v (H:Ok TE Tryz.prog pr3) {b:List Nat} (hb:b.length≤1048575) {kr kp:AV→St→Bool} (hk:∀ V s',SlRep (fun _=>True) s' V (qv b)→kr V s'=true):(sem Tryz.prog).call 132 [.str b] st0 kr kp=true:=by
 refine qp H 32 qzb rfl rfl ?_
 repeat (first|with_reducible (refine q9 H ?_;constructor)|simp only[rB,rP,rQ,q8,qa,q7,qb,reduceIte,reduceCtorEq,Nat.reduceAdd,Nat.reduceLT,Nat.reduceEqDiff,UInt8.reduceToNat,pe3,pf3])
 refine qB H (fun n t s'=>∃ (k fr:Nat) (V:AV) (dn:List (List Nat)),n+k=b.length+1∧tg t 0=.str b∧tg t 3=V∧tg t 4=.raw (.int .i64 (fr:Int))∧tg t 5=.raw (.int .i64 (k:Int))∧SlRep (fun _=>True) s' V dn∧dn.length≤k ∧
   ((k≤b.length∧fr≤k∧qv b=dn++qv (b.drop fr)∧47∉(b.drop fr).take (k - fr))∨(k=b.length+1∧qv b=dn))) (n:=b.length+1)
  ⟨0,0,_,[],rfl,by simp only[rB,rP,rQ,q8,qa,q7,qb,reduceIte,reduceCtorEq,Nat.reduceAdd,Nat.reduceLT,Nat.reduceEqDiff,UInt8.reduceToNat],by simp only[rB,rP,rQ,q8,qa,q7,qb,reduceIte,reduceCtorEq,Nat.reduceAdd,Nat.reduceLT,Nat.reduceEqDiff,UInt8.reduceToNat],by simp only[rB,rP,rQ,q8,qa,q7,qb,reduceIte,reduceCtorEq,Nat.reduceAdd,Nat.reduceLT,Nat.reduceEqDiff,UInt8.reduceToNat];rfl,by simp only[rB,rP,rQ,q8,qa,q7,qb,reduceIte,reduceCtorEq,Nat.reduceAdd,Nat.reduceLT,Nat.reduceEqDiff,UInt8.reduceToNat];rfl,Or.inl ⟨rfl,rfl⟩,Nat.le_refl _,Or.inl ⟨Nat.zero_le _,Nat.le_refl _,rfl,by simp⟩⟩ ?_
 rintro n t s' ih ⟨k,fr,V,dn,hn,t0,t3,t4,t5,hV,hd,hcase⟩
 cases n with
 | zero =>
  rcases hcase with⟨h1,_⟩|⟨h1,h2⟩
  ·omega
  have g0:decide ((k:Int)≤(b.length:Int))=false:=by rw[decide_eq_false_iff_not];omega
  repeat (first|with_reducible (refine q9 H ?_;constructor)|simp only[rB,rP,rQ,q8,qa,q7,qb,reduceIte,reduceCtorEq,Nat.reduceAdd,Nat.reduceLT,Nat.reduceEqDiff,UInt8.reduceToNat,pe3,pf3,t0,t3,t4,t5,ql,YL,g0,Tryz.results132])
  refine hk _ _ ?_
  rw[h2]
  exact hV
 | succ n =>
  rcases hcase with⟨h1,h2,h3,h4⟩|⟨h1,h2⟩
  ·have g0:decide ((k:Int)≤(b.length:Int))=true:=by rw[decide_eq_true_eq];omega
   have ew:=zL (k:=k) (by omega)
   have sm:=qzh h2 h1
   by_cases hend:k=b.length
   ·have g1:((k:Int)==(b.length:Int))=true:=by simp;omega
    have g1':((b.length:Int)==(b.length:Int))=true:=by simp
    repeat (first|with_reducible (refine q9 H ?_;constructor)|simp only[rB,rP,rQ,q8,qa,q7,qb,reduceIte,reduceCtorEq,Nat.reduceAdd,Nat.reduceLT,Nat.reduceEqDiff,UInt8.reduceToNat,pe3,pf3,t0,t3,t4,t5,ql,YL,g0,qr,g1,qI,ew,sm,KX])
    refine Jq (F:=fun _=>True) (p:=(b.drop fr).take (k - fr)) (names:=dn) (hV.alloc _) qu trivial (by omega) ?_
    intro V' s2 hr _ _
    repeat (first|with_reducible (refine q9 H ?_;constructor)|simp only[rB,rP,rQ,q8,qa,q7,qb,reduceIte,reduceCtorEq,Nat.reduceAdd,Nat.reduceLT,Nat.reduceEqDiff,UInt8.reduceToNat,t0,t3,t4,t5,qI,ew])
    have hp:qv (b.drop fr)=[(b.drop fr).take (k - fr)]:=by
     have e:(b.drop fr).take (k - fr)=b.drop fr:=List.take_of_length_le (by simp;omega)
     rw[e] at h4 ⊢
     exact J8 h4
    exact ih n _ _ (Nat.lt_succ_self n) ⟨k+1,k+1,_,_,by omega,by simp only[rB,rP,rQ,q8,qa,q7,qb,reduceIte,reduceCtorEq,Nat.reduceAdd,Nat.reduceLT,Nat.reduceEqDiff,UInt8.reduceToNat,t0],by simp only[rB,rP,rQ,q8,qa,q7,qb,reduceIte,reduceCtorEq,Nat.reduceAdd,Nat.reduceLT,Nat.reduceEqDiff,UInt8.reduceToNat],by simp only[rB,rP,rQ,q8,qa,q7,qb,reduceIte,reduceCtorEq,Nat.reduceAdd,Nat.reduceLT,Nat.reduceEqDiff,UInt8.reduceToNat],by simp only[rB,rP,rQ,q8,qa,q7,qb,reduceIte,reduceCtorEq,Nat.reduceAdd,Nat.reduceLT,Nat.reduceEqDiff,UInt8.reduceToNat],hr,by simp;omega,Or.inr ⟨by omega,by rw[h3,hp]⟩⟩
   ·have hlt:k < b.length:=by omega
    have g1:((k:Int)==(b.length:Int))=false:=by simp;omega
    have hx:b[k]?=some b[k]:=List.getElem?_eq_getElem hlt
    have hdk:b.drop k=b[k]::b.drop (k+1):=List.drop_eq_getElem_cons hlt
    have hsp:b.drop fr=(b.drop fr).take (k - fr)++b.drop k:=by
     have:=(List.take_append_drop (k - fr) (b.drop fr)).symm
     rw[List.drop_drop,show fr+(k - fr)=k from by omega] at this
     exact this
    have htk:(b.drop fr).take (k+1 - fr)=(b.drop fr).take (k - fr)++[b[k]]:=by
     rw[show k+1 - fr=(k - fr)+1 from by omega,List.take_add_one,List.getElem?_drop,show fr+(k - fr)=k from by omega,hx]
     rfl
    generalize b[k]=x at hx hdk htk
    have ix:=qq7 hx
    have g47:((x:Int)==47)=Nat.beq x 47:=Wt
    cases h47:Nat.beq x 47 with
    | true =>
     have hx47:=Nat.eq_of_beq_eq_true h47
     subst hx47
     repeat (first|with_reducible (refine q9 H ?_;constructor)|simp only[rB,rP,rQ,q8,qa,q7,qb,reduceIte,reduceCtorEq,Nat.reduceAdd,Nat.reduceLT,Nat.reduceEqDiff,UInt8.reduceToNat,pe3,pf3,t0,t3,t4,t5,ql,YL,g0,qr,g1,qI,ew,sm,KX,ix,g47,h47])
     refine Jq (F:=fun _=>True) (p:=(b.drop fr).take (k - fr)) (names:=dn) (hV.alloc _) qu trivial (by omega) ?_
     intro V' s2 hr _ _
     repeat (first|with_reducible (refine q9 H ?_;constructor)|simp only[rB,rP,rQ,q8,qa,q7,qb,reduceIte,reduceCtorEq,Nat.reduceAdd,Nat.reduceLT,Nat.reduceEqDiff,UInt8.reduceToNat,t0,t3,t4,t5,qI,ew])
     have hp:qv (b.drop fr)=(b.drop fr).take (k - fr)::qv (b.drop (k+1)):=by
      rw[hdk] at hsp
      have e2:=hsp
      have h5:=h4
      generalize List.take (k - fr) (List.drop fr b)=pre at e2 h5 ⊢
      rw[e2,Vg h5]
     exact ih n _ _ (Nat.lt_succ_self n) ⟨k+1,k+1,_,_,by omega,by simp only[rB,rP,rQ,q8,qa,q7,qb,reduceIte,reduceCtorEq,Nat.reduceAdd,Nat.reduceLT,Nat.reduceEqDiff,UInt8.reduceToNat,t0],by simp only[rB,rP,rQ,q8,qa,q7,qb,reduceIte,reduceCtorEq,Nat.reduceAdd,Nat.reduceLT,Nat.reduceEqDiff,UInt8.reduceToNat],by simp only[rB,rP,rQ,q8,qa,q7,qb,reduceIte,reduceCtorEq,Nat.reduceAdd,Nat.reduceLT,Nat.reduceEqDiff,UInt8.reduceToNat],by simp only[rB,rP,rQ,q8,qa,q7,qb,reduceIte,reduceCtorEq,Nat.reduceAdd,Nat.reduceLT,Nat.reduceEqDiff,UInt8.reduceToNat],hr,by simp;omega,Or.inl ⟨by omega,Nat.le_refl _,by rw[h3,hp];simp,by simp⟩⟩
    | false =>
     repeat (first|with_reducible (refine q9 H ?_;constructor)|simp only[rB,rP,rQ,q8,qa,q7,qb,reduceIte,reduceCtorEq,Nat.reduceAdd,Nat.reduceLT,Nat.reduceEqDiff,UInt8.reduceToNat,pe3,pf3,t0,t3,t4,t5,ql,YL,g0,qr,g1,qI,ew,sm,ix,g47,h47])
     refine ih n _ _ (Nat.lt_succ_self n) ⟨k+1,fr,V,dn,by omega,by simp only[rB,rP,rQ,q8,qa,q7,qb,reduceIte,reduceCtorEq,Nat.reduceAdd,Nat.reduceLT,Nat.reduceEqDiff,UInt8.reduceToNat,t0],by simp only[rB,rP,rQ,q8,qa,q7,qb,reduceIte,reduceCtorEq,Nat.reduceAdd,Nat.reduceLT,Nat.reduceEqDiff,UInt8.reduceToNat,t3],by simp only[rB,rP,rQ,q8,qa,q7,qb,reduceIte,reduceCtorEq,Nat.reduceAdd,Nat.reduceLT,Nat.reduceEqDiff,UInt8.reduceToNat,t4],by simp only[rB,rP,rQ,q8,qa,q7,qb,reduceIte,reduceCtorEq,Nat.reduceAdd,Nat.reduceLT,Nat.reduceEqDiff,UInt8.reduceToNat],hV,by omega,Or.inl ⟨by omega,by omega,h3,?_⟩⟩
     rw[htk]
     simp only[List.mem_append,List.mem_singleton,not_or]
     exact⟨h4,fun e=>by rw[← e] at h47;cases h47⟩
  ·omega
theorem qjk {s:St} (H:Ok TE Tryz.prog pr3) {b:List Nat} (hb:b.length≤1048575) {kr kp:AV→St→Bool} (hk:kr (JA 9 (qq b) s).1 (JA 9 (qq b) s).2=true):(sem Tryz.prog).call 96 [.str b] s kr kp=true:=by
 by_cases h0:b=[]
 ·subst h0
  have e0:eqB ([]:List Nat) []=true:=rfl
  refine qp H 7 q3i rfl rfl ?_
  repeat (first|with_reducible (refine q9 H ?_;constructor)|simp only[rB,rP,rQ,q8,qa,q7,qb,reduceIte,reduceCtorEq,Nat.reduceAdd,Nat.reduceLT,Nat.reduceEqDiff,UInt8.reduceToNat,pe3,pf3,zz,e0,Tryz.results96])
  exact hk
 ·have hne:qq b≠[]:=by rw[zX h0];exact Yk b
  refine qjt hne rfl (fun kr kp hk=>?_) hk
  have e0:=Qa h0
  refine qp H 7 q3i rfl rfl ?_
  repeat (first|with_reducible (refine q9 H ?_;constructor)|simp only[rB,rP,rQ,q8,qa,q7,qb,reduceIte,reduceCtorEq,Nat.reduceAdd,Nat.reduceLT,Nat.reduceEqDiff,UInt8.reduceToNat,pe3,pf3,zz,e0])
  refine q0v H hb (fun V s' hV=>?_)
  repeat (first|with_reducible (refine q9 H ?_;constructor)|simp only[rB,rP,rQ,q8,qa,q7,qb,reduceIte,reduceCtorEq,Nat.reduceAdd,Nat.reduceLT,Nat.reduceEqDiff,UInt8.reduceToNat,pe3,pf3,Tryz.results96])
  rw[zX h0] at hk
  exact hk _ _ hV
def qqz:List (List Nat)→Bool
 | []=>true
 | p::l=>bif qg6 p != 0 then false else qqz l
def Q4 (b:List Nat):Bool:=bif decide (((qq b).length:Int) > 8) then false else bif decide ((b.length:Int) > 140) then false else qqz (qq b)
theorem Ws:∀ {b p:List Nat},p∈qv b→p.length≤b.length:=by
 intro b p h
 have e:=join_pieces (b:=b)
 have key:∀ l:List (List Nat),p∈l→p.length≤(qo [47] l).length:=by
  intro l
  induction l with
  | nil=>intro h;cases h
  | cons x l ih =>
   intro h
   cases l with
   | nil =>
    rcases List.mem_cons.mp h with rfl|h
    ·exact Nat.le_refl _
    ·cases h
   | cons y l =>
    rw[QA (by simp)]
    rcases List.mem_cons.mp h with rfl|h
    ·simp
    ·have:=ih h
     simp
     omega
 have:=key _ h
 rw[e] at this
 exact this
theorem Wm {b p:List Nat} (h:p∈qq b):p.length≤b.length:=by
 cases b with
 | nil=>cases h
 | cons x l=>exact Ws (b:=x::l) h
theorem SlV.at {s:St} {V:AV} {names:List (List Nat)} {p:List Nat} {j:Nat} (h:SlV s V names) (hp:names[j]?=some p):∃ id o,qL TE 36 V (.raw (.int .i64 (j:Int)))=some (.ptr id o)∧ldO (s.h.get id) o=some (.str p)∧∀ b,inO (s.h.get id) b=b:=by
 obtain⟨id,o,x1,x2,ob,x3⟩:=h.idx hp
 exact⟨id,o,x1,by rw[← qdt];exact x2,fun b=>by rw[x3];rfl⟩
theorem Vc {s:St} (H:Ok TE Tryz.prog pr3) {b:List Nat} (hb:b.length≤1048575) {kr kp:AV→St→Bool} (hk:kr (.raw (.bool (Q4 b))) s=true):(sem Tryz.prog).call 95 [.str b] s kr kp=true:=by
 refine qm4 rfl rfl (fun kr kp hk=>?_) hk
 refine qp H 27 q57 rfl rfl ?_
 repeat (first|with_reducible (refine q9 H ?_;constructor)|simp only[rB,rP,rQ,q8,qa,q7,qb,reduceIte,reduceCtorEq,Nat.reduceAdd,Nat.reduceLT,Nat.reduceEqDiff,UInt8.reduceToNat,pe3,pf3])
 refine qjk H hb ?_
 have hV:=SlV.mk (s:=st0) (names:=qq b)
 have hml:=fun {p:List Nat} (h:p∈qq b)=>Wm h
 unfold Q4 at hk
 have hpl:=ZN (b:=b)
 generalize (JA 9 (qq b) st0).1=V at hV ⊢
 generalize (JA 9 (qq b) st0).2=s1 at hV ⊢
 generalize qq b=ps at hV hk hml hpl
 have vl:=hV.len
 have vi:=hV.ids
 cases h1:decide ((ps.length:Int) > 8) with
 | true =>
  rw[h1] at hk
  repeat (first|with_reducible (refine q9 H ?_;constructor)|simp only[rB,rP,rQ,q8,qa,q7,qb,reduceIte,reduceCtorEq,Nat.reduceAdd,Nat.reduceLT,Nat.reduceEqDiff,UInt8.reduceToNat,pe3,pf3,vl,vi,zD,h1,Tryz.results95])
  exact hk _
 | false =>
 rw[h1] at hk
 cases h2:decide ((b.length:Int) > 140) with
 | true =>
  rw[h2] at hk
  repeat (first|with_reducible (refine q9 H ?_;constructor)|simp only[rB,rP,rQ,q8,qa,q7,qb,reduceIte,reduceCtorEq,Nat.reduceAdd,Nat.reduceLT,Nat.reduceEqDiff,UInt8.reduceToNat,pe3,pf3,vl,vi,zD,h1,h2,ql,Tryz.results95])
  exact hk _
 | false =>
 rw[h2,cond_false,cond_false] at hk
 repeat (first|with_reducible (refine q9 H ?_;constructor)|simp only[rB,rP,rQ,q8,qa,q7,qb,reduceIte,reduceCtorEq,Nat.reduceAdd,Nat.reduceLT,Nat.reduceEqDiff,UInt8.reduceToNat,pe3,pf3,vl,vi,zD,h1,h2,ql])
 refine qB H (fun n t s'=>∃ k:Nat,n+k=ps.length∧s'=s1∧tg t 3=V∧tg t 4=.raw (.int .i64 (k:Int))∧qqz ps=qqz (ps.drop k)) (n:=ps.length)
  ⟨0,rfl,rfl,by simp only[rB,rP,rQ,q8,qa,q7,qb,reduceIte,reduceCtorEq,Nat.reduceAdd,Nat.reduceLT,Nat.reduceEqDiff,UInt8.reduceToNat],by simp only[rB,rP,rQ,q8,qa,q7,qb,reduceIte,reduceCtorEq,Nat.reduceAdd,Nat.reduceLT,Nat.reduceEqDiff,UInt8.reduceToNat];rfl,rfl⟩ ?_
 rintro n t s' ih ⟨k,hn,rfl,t3,t4,hrun⟩
 cases n with
 | zero =>
  have g0:=QO (a:=k) (b:=ps.length) (by omega)
  rw[List.drop_eq_nil_of_le (by omega)] at hrun
  rw[hrun] at hk
  repeat (first|with_reducible (refine q9 H ?_;constructor)|simp only[rB,rP,rQ,q8,qa,q7,qb,reduceIte,reduceCtorEq,Nat.reduceAdd,Nat.reduceLT,Nat.reduceEqDiff,UInt8.reduceToNat,pe3,pf3,t3,t4,vl,vi,zJ,g0,Tryz.results95])
  exact hk _
 | succ n =>
  have hlt:k < ps.length:=by omega
  have g0:=Yd hlt
  have ew:=zL (k:=k) (by omega)
  rw[List.drop_eq_getElem_cons hlt] at hrun
  have hx:ps[k]?=some ps[k]:=List.getElem?_eq_getElem hlt
  have hm:=hml (List.getElem_mem hlt)
  generalize ps[k]=x at hx hrun hm
  obtain⟨id,o,i1,i2,i3⟩:=hV.at hx
  repeat (first|with_reducible (refine q9 H ?_;constructor)|simp only[rB,rP,rQ,q8,qa,q7,qb,reduceIte,reduceCtorEq,Nat.reduceAdd,Nat.reduceLT,Nat.reduceEqDiff,UInt8.reduceToNat,pe3,pf3,t3,t4,vl,vi,zJ,g0,i1,i2,i3,qD])
  refine qwg H (by omega) ?_
  cases hz:qg6 x != 0 with
  | true =>
   simp only[qqz,hz,cond_true] at hrun
   rw[hrun] at hk
   repeat (first|with_reducible (refine q9 H ?_;constructor)|simp only[rB,rP,rQ,q8,qa,q7,qb,reduceIte,reduceCtorEq,Nat.reduceAdd,Nat.reduceLT,Nat.reduceEqDiff,UInt8.reduceToNat,pe3,pf3,t3,t4,qH,hz,Tryz.results95])
   exact hk _
  | false =>
   simp only[qqz,hz,cond_false] at hrun
   repeat (first|with_reducible (refine q9 H ?_;constructor)|simp only[rB,rP,rQ,q8,qa,q7,qb,reduceIte,reduceCtorEq,Nat.reduceAdd,Nat.reduceLT,Nat.reduceEqDiff,UInt8.reduceToNat,pe3,pf3,t3,t4,qH,hz,qI,ew])
   exact ih n _ _ (Nat.lt_succ_self n) ⟨k+1,by omega,rfl,by simp only[rB,rP,rQ,q8,qa,q7,qb,reduceIte,reduceCtorEq,Nat.reduceAdd,Nat.reduceLT,Nat.reduceEqDiff,UInt8.reduceToNat,t3],by simp only[rB,rP,rQ,q8,qa,q7,qb,reduceIte,reduceCtorEq,Nat.reduceAdd,Nat.reduceLT,Nat.reduceEqDiff,UInt8.reduceToNat],hrun⟩
def QW:List Nat→List Nat→Bool
 | a::x,b::y=>bif Nat.beq a b then QW x y else bif Nat.beq a 47 then true else bif Nat.beq b 47 then false else decide ((a:Int) < (b:Int))
 | [],b=>decide (((0:Nat):Int) < (b.length:Int))
 | _::_,[]=>false
theorem qn0 {a b:List Nat} {k:Nat} (h:¬ (k < a.length∧k < b.length)) (ha:k≤a.length) (hb:k≤b.length):QW (a.drop k) (b.drop k)=decide ((a.length:Int) < (b.length:Int)):=by
 by_cases h1:k < a.length
 ·have h2:b.length=k:=by omega
  rw[List.drop_eq_nil_of_le (by omega:b.length≤k),List.drop_eq_getElem_cons h1]
  show false=_
  symm
  rw[decide_eq_false_iff_not]
  omega
 ·rw[List.drop_eq_nil_of_le (by omega:a.length≤k)]
  show decide (((0:Nat):Int) < ((b.drop k).length:Int))=_
  rw[List.length_drop]
  congr 1
  apply propext
  omega
theorem qf9 {s:St} (H:Ok TE Tryz.prog pr3) {a b:List Nat} (ha:a.length≤1048575) {kr kp:AV→St→Bool} (hk:kr (.raw (.bool (QW a b))) s=true):(sem Tryz.prog).call 42 [.str a,.str b] s kr kp=true:=by
 refine qp H 49 q5p rfl rfl ?_
 repeat (first|with_reducible (refine q9 H ?_;constructor)|simp only[rB,rP,rQ,q8,qa,q7,qb,reduceIte,reduceCtorEq,Nat.reduceAdd,Nat.reduceLT,Nat.reduceEqDiff,UInt8.reduceToNat,pe3,pf3])
 refine qB H (fun n t s'=>∃ k:Nat,n+k=a.length∧k≤b.length∧s'=s∧tg t 0=.str a∧tg t 1=.str b∧tg t 5=.raw (.int .i64 (k:Int))∧QW a b=QW (a.drop k) (b.drop k)) (n:=a.length)
  ⟨0,rfl,Nat.zero_le _,rfl,by simp only[rB,rP,rQ,q8,qa,q7,qb,reduceIte,reduceCtorEq,Nat.reduceAdd,Nat.reduceLT,Nat.reduceEqDiff,UInt8.reduceToNat],by simp only[rB,rP,rQ,q8,qa,q7,qb,reduceIte,reduceCtorEq,Nat.reduceAdd,Nat.reduceLT,Nat.reduceEqDiff,UInt8.reduceToNat],by simp only[rB,rP,rQ,q8,qa,q7,qb,reduceIte,reduceCtorEq,Nat.reduceAdd,Nat.reduceLT,Nat.reduceEqDiff,UInt8.reduceToNat];rfl,rfl⟩ ?_
 rintro n t s' ih ⟨k,hn,hkb,rfl,t0,t1,t5,hrun⟩
 have fin:¬ (k < a.length∧k < b.length)→QW a b=decide ((a.length:Int) < (b.length:Int)):=fun h=>hrun.trans (qn0 h (by omega) hkb)
 cases n with
 | zero =>
  have g0:=QO (a:=k) (b:=a.length) (by omega)
  rw[fin (by omega)] at hk
  repeat (first|with_reducible (refine q9 H ?_;constructor)|simp only[rB,rP,rQ,q8,qa,q7,qb,reduceIte,reduceCtorEq,Nat.reduceAdd,Nat.reduceLT,Nat.reduceEqDiff,UInt8.reduceToNat,pe3,pf3,t0,t1,t5,ql,zJ,g0,Tryz.results42])
  exact hk
 | succ n =>
  have hlt:k < a.length:=by omega
  have g0:=Yd hlt
  by_cases hlb:k < b.length
  ·have g1:=Yd hlb
   have ew:=zL (k:=k) (by omega)
   rw[List.drop_eq_getElem_cons hlt,List.drop_eq_getElem_cons hlb] at hrun
   have hx:a[k]?=some a[k]:=List.getElem?_eq_getElem hlt
   have hy:b[k]?=some b[k]:=List.getElem?_eq_getElem hlb
   generalize a[k]=x at hx hrun
   generalize b[k]=y at hy hrun
   have ix:=qq7 hx
   have iy:=qq7 hy
   simp only[QW] at hrun
   have gx47:((x:Int)==47)=Nat.beq x 47:=Wt
   have gy47:((y:Int) != 47)=!(Nat.beq y 47):=congrArg Bool.not Wt
   have gxy:((x:Int) != (y:Int))=!(Nat.beq x y):=congrArg Bool.not Wt
   cases hxy:Nat.beq x y with
   | true =>
    rw[hxy,cond_true] at hrun
    repeat (first|with_reducible (refine q9 H ?_;constructor)|simp only[rB,rP,rQ,q8,qa,q7,qb,reduceIte,reduceCtorEq,Nat.reduceAdd,Nat.reduceLT,Nat.reduceEqDiff,UInt8.reduceToNat,pe3,pf3,t0,t1,t5,ql,zJ,g0,g1,ix,iy,qH,gxy,hxy,Bool.not_true,qI,ew]|(with_reducible refine qy H (i:=4) (.take 0 (.take 1 (.take 2 (.take 3 (.take 4 (.take 5 (.take 6 (.done)))))))) rfl (by kernel_rfl) ?_))
    exact ih n _ _ (Nat.lt_succ_self n) ⟨k+1,by omega,by omega,rfl,by simp only[rB,rP,rQ,q8,qa,q7,qb,reduceIte,reduceCtorEq,Nat.reduceAdd,Nat.reduceLT,Nat.reduceEqDiff,UInt8.reduceToNat,t0],by simp only[rB,rP,rQ,q8,qa,q7,qb,reduceIte,reduceCtorEq,Nat.reduceAdd,Nat.reduceLT,Nat.reduceEqDiff,UInt8.reduceToNat,t1],by simp only[rB,rP,rQ,q8,qa,q7,qb,reduceIte,reduceCtorEq,Nat.reduceAdd,Nat.reduceLT,Nat.reduceEqDiff,UInt8.reduceToNat],hrun⟩
   | false =>
    rw[hxy,cond_false] at hrun
    cases hx4:Nat.beq x 47 with
    | true =>
     rw[hx4,cond_true] at hrun
     rw[hrun] at hk
     repeat (first|with_reducible (refine q9 H ?_;constructor)|simp only[rB,rP,rQ,q8,qa,q7,qb,reduceIte,reduceCtorEq,Nat.reduceAdd,Nat.reduceLT,Nat.reduceEqDiff,UInt8.reduceToNat,pe3,pf3,t0,t1,t5,ql,zJ,g0,g1,ix,iy,qH,qr,gxy,hxy,gx47,hx4,Bool.not_false,Tryz.results42]|(with_reducible refine qy H (i:=4) (.take 0 (.take 1 (.take 2 (.take 3 (.take 4 (.take 5 (.take 6 (.done)))))))) rfl (by kernel_rfl) ?_)|(with_reducible refine qy H (i:=5) (.take 0 (.take 1 (.take 2 (.take 3 (.take 4 (.take 5 (.take 6 (.take 7 (.take 8 (.take 9 (.take 10 (.take 11 (.take 12 (.take 13 (.take 14 (.take 15 (.take 16 (.take 17 (.take 18 (.take 19 (.done))))))))))))))))))))) rfl (by kernel_rfl) ?_))
     exact hk
    | false =>
     rw[hx4,cond_false] at hrun
     cases hy4:Nat.beq y 47 with
     | true =>
      rw[hy4,cond_true] at hrun
      rw[hrun] at hk
      repeat (first|with_reducible (refine q9 H ?_;constructor)|simp only[rB,rP,rQ,q8,qa,q7,qb,reduceIte,reduceCtorEq,Nat.reduceAdd,Nat.reduceLT,Nat.reduceEqDiff,UInt8.reduceToNat,pe3,pf3,t0,t1,t5,ql,zJ,g0,g1,ix,iy,qH,qr,gxy,hxy,gx47,hx4,gy47,hy4,Bool.not_true,Bool.not_false,Tryz.results42]|(with_reducible refine qy H (i:=4) (.take 0 (.take 1 (.take 2 (.take 3 (.take 4 (.take 5 (.take 6 (.done)))))))) rfl (by kernel_rfl) ?_)|(with_reducible refine qy H (i:=5) (.take 0 (.take 1 (.take 2 (.take 3 (.take 4 (.take 5 (.take 6 (.take 7 (.take 8 (.take 9 (.take 10 (.take 11 (.take 12 (.take 13 (.take 14 (.take 15 (.take 16 (.take 17 (.take 18 (.take 19 (.done))))))))))))))))))))) rfl (by kernel_rfl) ?_))
      exact hk
     | false =>
      rw[hy4,cond_false] at hrun
      rw[hrun] at hk
      repeat (first|with_reducible (refine q9 H ?_;constructor)|simp only[rB,rP,rQ,q8,qa,q7,qb,reduceIte,reduceCtorEq,Nat.reduceAdd,Nat.reduceLT,Nat.reduceEqDiff,UInt8.reduceToNat,pe3,pf3,t0,t1,t5,ql,zJ,g0,g1,ix,iy,qH,qr,gxy,hxy,gx47,hx4,gy47,hy4,Bool.not_false,Tryz.results42]|(with_reducible refine qy H (i:=4) (.take 0 (.take 1 (.take 2 (.take 3 (.take 4 (.take 5 (.take 6 (.done)))))))) rfl (by kernel_rfl) ?_)|(with_reducible refine qy H (i:=5) (.take 0 (.take 1 (.take 2 (.take 3 (.take 4 (.take 5 (.take 6 (.take 7 (.take 8 (.take 9 (.take 10 (.take 11 (.take 12 (.take 13 (.take 14 (.take 15 (.take 16 (.take 17 (.take 18 (.take 19 (.done))))))))))))))))))))) rfl (by kernel_rfl) ?_))
      exact hk
  ·have g1:=QO hlb
   rw[fin (by omega)] at hk
   repeat (first|with_reducible (refine q9 H ?_;constructor)|simp only[rB,rP,rQ,q8,qa,q7,qb,reduceIte,reduceCtorEq,Nat.reduceAdd,Nat.reduceLT,Nat.reduceEqDiff,UInt8.reduceToNat,pe3,pf3,t0,t1,t5,ql,zJ,g0,g1,Tryz.results42])
   exact hk
def Qc (b:List Nat):List Nat × List Nat:=bif decide (Q9 b 47 b.length ≥ 0) then (b.take (Q9 b 47 b.length).toNat,b.drop ((Q9 b 47 b.length).toNat+1)) else ([],b)
theorem q3s {b:List Nat} {j:Nat} (h:j≤b.length):qF TE 9 (.str b) none (some (.raw (.int .i64 (j:Int)))) none=some (.str (b.take j)):=by
 rw[Ym,Xz zC h]
 simp
theorem qzv {b:List Nat} {j:Nat} (h:j≤b.length):qF TE 9 (.str b) (some (.raw (.int .i64 (j:Int)))) none none=some (.str (b.drop j)):=by
 rw[Ym,qbd zC h (Nat.le_refl _)]
 simp only
 rw[List.take_of_length_le (by simp)]
theorem VT {s:St} (H:Ok TE Tryz.prog pr3) {b:List Nat} (hb:b.length≤1048575) {kr kp:AV→St→Bool} (hk:kr (.tuple [.str (Qc b).1,.str (Qc b).2]) s=true):(sem Tryz.prog).call 43 [.str b] s kr kp=true:=by
 refine qp H 24 q73 rfl rfl ?_
 have e0:IntKind.i64.wrap ((b.length:Int) - 1)=(b.length:Int) - 1:=Go.IntWalk.i64_in _ (by omega)
 unfold Qc at hk
 repeat (first|with_reducible (refine q9 H ?_;constructor)|simp only[rB,rP,rQ,q8,qa,q7,qb,reduceIte,reduceCtorEq,Nat.reduceAdd,Nat.reduceLT,Nat.reduceEqDiff,UInt8.reduceToNat,pe3,pf3,ql,zf,e0])
 refine qB H (fun n t s'=>n≤b.length∧s'=s∧tg t 0=.str b∧tg t 4=.raw (.int .i64 ((n:Int) - 1))∧Q9 b 47 b.length=Q9 b 47 n) (n:=b.length)
  ⟨Nat.le_refl _,rfl,by simp only[rB,rP,rQ,q8,qa,q7,qb,reduceIte,reduceCtorEq,Nat.reduceAdd,Nat.reduceLT,Nat.reduceEqDiff,UInt8.reduceToNat],by simp only[rB,rP,rQ,q8,qa,q7,qb,reduceIte,reduceCtorEq,Nat.reduceAdd,Nat.reduceLT,Nat.reduceEqDiff,UInt8.reduceToNat],rfl⟩ ?_
 rintro n t s' ih ⟨hn,rfl,t0,t4,hl⟩
 cases n with
 | zero =>
  have g0:decide (((0:Nat):Int) - 1 ≥ 0)=false:=rfl
  have h1:decide (Q9 b 47 b.length ≥ 0)=false:=by rw[hl];rfl
  rw[h1] at hk
  repeat (first|with_reducible (refine q9 H ?_;constructor)|simp only[rB,rP,rQ,q8,qa,q7,qb,reduceIte,reduceCtorEq,Nat.reduceAdd,Nat.reduceLT,Nat.reduceEqDiff,UInt8.reduceToNat,pe3,pf3,t0,t4,Y3,g0,Tryz.results43])
  exact hk
 | succ n =>
  have e1:((n+1:Nat):Int) - 1=(n:Int):=by omega
  rw[e1] at t4
  have g0:decide ((n:Int) ≥ 0)=true:=by rw[decide_eq_true_eq];omega
  have hx:b[n]?=some b[n]:=List.getElem?_eq_getElem (by omega)
  generalize b[n]=x at hx
  have ix:=qq7 hx
  simp only[Q9,hx] at hl
  have g47:((x:Int)==47)=Nat.beq x 47:=Wt
  cases hc:Nat.beq x 47 with
  | true =>
   rw[hc,cond_true] at hl
   have h1:decide (Q9 b 47 b.length ≥ 0)=true:=by rw[hl,decide_eq_true_eq];omega
   rw[h1,hl] at hk
   have ew:=zL (k:=n) (by omega)
   repeat (first|with_reducible (refine q9 H ?_;constructor)|simp only[rB,rP,rQ,q8,qa,q7,qb,reduceIte,reduceCtorEq,Nat.reduceAdd,Nat.reduceLT,Nat.reduceEqDiff,UInt8.reduceToNat,pe3,pf3,t0,t4,Y3,g0,ix,qr,g47,hc,qI,ew,q3s (b:=b) (j:=n) (by omega),qzv (b:=b) (j:=n+1) (by omega),Tryz.results43]|(with_reducible refine qy H (i:=5) (.take 0 (.take 1 (.take 2 (.take 3 (.take 4 (.take 5 (.take 6 (.take 7 (.take 8 (.done)))))))))) rfl (by kernel_rfl) ?_))
   exact hk
  | false =>
   rw[hc,cond_false] at hl
   have e2:IntKind.i64.wrap ((n:Int) - 1)=(n:Int) - 1:=Go.IntWalk.i64_in _ (by omega)
   repeat (first|with_reducible (refine q9 H ?_;constructor)|simp only[rB,rP,rQ,q8,qa,q7,qb,reduceIte,reduceCtorEq,Nat.reduceAdd,Nat.reduceLT,Nat.reduceEqDiff,UInt8.reduceToNat,pe3,pf3,t0,t4,Y3,g0,ix,qr,g47,hc,zf,e2])
   exact ih n _ _ (Nat.lt_succ_self n) ⟨by omega,rfl,by simp only[rB,rP,rQ,q8,qa,q7,qb,reduceIte,reduceCtorEq,Nat.reduceAdd,Nat.reduceLT,Nat.reduceEqDiff,UInt8.reduceToNat,t0],by simp only[rB,rP,rQ,q8,qa,q7,qb,reduceIte,reduceCtorEq,Nat.reduceAdd,Nat.reduceLT,Nat.reduceEqDiff,UInt8.reduceToNat],hl⟩
def qy0 (ty:Nat) (el:TI) (s:St) (V X:AV):Option (AV × St):=match K5 X with
 | none=>none
 | some n =>
  match zI s 1 n X with
  | none=>none
  | some new=>bif Nat.beq new.length (n * 1)&&new.all AV.one then ZZ s ty el V n new else none
structure RowT (st ty:Nat) (el:TI):Prop where
 sz:el.size=1
 by':el.bytes≤16
 app:∀ s V X,zO TE s [st,st] [V,X]=qy0 ty el s V X
 so:∀ id off len ci cap ex lo hi,qF TE st (.slice id off len ci cap ex) lo hi none=match qA len cap lo hi with
  | some (l,h)=>bif Nat.blt l cap||Nat.beq l 0 then some (.slice id (off+l * 1) (h - l) (ci+l) (cap - l) ex) else bif ex then some (.slice id off 0 ci 0 true) else some (.esl id off ci l 1)
  | none=>none
 so0:∀ lo hi,qF TE st nilS lo hi none=match qA 0 0 lo hi with|some _=>some nilS|none=>none
 ix:∀ (id off n ci cap:Nat) (ex:Bool) (k:Nat),qL TE st (.slice id off n ci cap ex) (.raw (.int .i64 (k:Int)))=bif Nat.blt k n then some (.ptr id (off+k * 1)) else none
 ln:∀ s' (id off n ci cap:Nat) (ex:Bool),Q5 TE s' [st] [.slice id off n ci cap ex]=some (.raw (.int .i64 (n:Int)))
 ln0:∀ s',Q5 TE s' [st] [nilS]=some (.raw (.int .i64 0))
def elS:TI:={ desc:=.string,size:=1,bytes:=16,zero:=some (.string ⟨#[]⟩) }
theorem q0d:RowT 36 9 elS where
 sz:=rfl
 by':=by decide
 app:=fun s V X=>qim
 so:=fun id off len ci cap ex lo hi=>qlw
 so0:=fun lo hi=>by
  have h:qF TE 36 nilS lo hi none=(match (some elS:Option TI),qA 0 0 lo hi with
   | some _,some _=>some (.raw (.slice none 0 0))
   | _,_=>none):=by kernel_rfl
  rw[h]
  cases qA 0 0 lo hi <;> rfl
 ix:=fun id off n ci cap ex k=>by kernel_rfl
 ln:=fun s' id off n ci cap ex=>by kernel_rfl
 ln0:=fun s'=>by kernel_rfl
noncomputable def elN:TI:=(TE.info 75).getD default
theorem qzk:elN.size=1:=by kernel_rfl
theorem qji {cs:List AV} {n:Nat}:JW cs n []=some cs:=by cases cs <;> cases n <;> rfl
theorem qt6:RowT 84 75 elN where
 sz:=qzk
 by':=Nat.le_of_ble_eq_true (by kernel_rfl)
 app:=fun s V X=>by kernel_rfl
 so:=fun id off len ci cap ex lo hi=>by
  have h:qF TE 84 (.slice id off len ci cap ex) lo hi none=(match (some elN:Option TI),qA len cap lo hi with
   | some el,some (l,h) =>
    bif Nat.blt l cap||Nat.beq l 0 then some (.slice id (off+l * el.size) (h - l) (ci+l) (cap - l) ex)
    else bif ex then some (.slice id off 0 ci 0 true)
    else some (.esl id off ci l el.size)
   | _,_=>none):=by kernel_rfl
  rw[h]
  cases qA len cap lo hi with
  | none=>rfl
  | some x =>
   obtain⟨l,h⟩:=x
   simp only[qzk]
 so0:=fun lo hi=>by
  have h:qF TE 84 nilS lo hi none=(match (some elN:Option TI),qA 0 0 lo hi with
   | some _,some _=>some (.raw (.slice none 0 0))
   | _,_=>none):=by kernel_rfl
  rw[h]
  cases qA 0 0 lo hi <;> rfl
 ix:=fun id off n ci cap ex k=>by kernel_rfl
 ln:=fun s' id off n ci cap ex=>by kernel_rfl
 ln0:=fun s'=>by kernel_rfl
def blk:AV→Option Nat
 | .slice id _ _ _ _ _=>some id
 | _=>none
def RowV (ty:Nat) (s:St) (V:AV) (cs:List AV):Prop:=(V=nilS∧cs=[])∨∃ id ex fz,V=.slice id 0 cs.length 0 cs.length ex∧s.h.get id=some (.cells cs ty fz)∧(ex=false→fz=2)
section
variable {st ty:Nat} {el:TI} {s:St} {V:AV} {cs:List AV}
theorem RowV.len (RT:RowT st ty el) (h:RowV ty s V cs):∀ s',Q5 TE s' [st] [V]=some (.raw (.int .i64 (cs.length:Int))):=by
 intro s'
 rcases h with⟨rfl,rfl⟩|⟨id,ex,fz,rfl,_⟩
 ·exact RT.ln0 s'
 ·exact RT.ln s' _ _ _ _ _ _
theorem RowV.ids (h:RowV ty s V cs):QG V=[]:=by
 rcases h with⟨rfl,rfl⟩|⟨id,ex,fz,rfl,_⟩ <;> rfl
theorem RowV.cells1 (h:RowV ty s V cs):V.cells=[V]∧V.one=true:=by
 rcases h with⟨rfl,rfl⟩|⟨id,ex,fz,rfl,_⟩ <;> exact⟨rfl,rfl⟩
theorem RowV.beq (h:RowV ty s V cs):beqA V V=true:=by
 rcases h with⟨rfl,rfl⟩|⟨id,ex,fz,rfl,_⟩
 ·rfl
 ·simp[beqA]
theorem RowV.at (RT:RowT st ty el) (h:RowV ty s V cs) {k:Nat} {v:AV} (hk:cs[k]?=some v):∃ id,qL TE st V (.raw (.int .i64 (k:Int)))=some (.ptr id k)∧ldO (s.h.get id) k=some v∧(∀ b,inO (s.h.get id) b=b)∧blk V=some id∧∃ fz,s.h.get id=some (.cells cs ty fz):=by
 have hlt:=(List.getElem?_eq_some_iff.mp hk).1
 rcases h with⟨rfl,rfl⟩|⟨id,ex,fz,rfl,hg,_⟩
 ·simp at hk
 ·refine⟨id,?_,?_,fun b=>by rw[hg];rfl,rfl,fz,hg⟩
  ·rw[RT.ix,Nat.blt_eq.mpr hlt]
   simp
  ·rw[hg]
   exact hk
theorem RowV.lt (hB:qc s) (h:RowV ty s V cs) {b:Nat} (hb:blk V=some b):b < s.nx:=by
 rcases h with⟨rfl,rfl⟩|⟨id,ex,fz,rfl,hg,_⟩
 ·cases hb
 ·cases hb
  exact hB _ _ hg
theorem RowV.keep {s':St} (h:RowV ty s V cs) (hk:∀ b,blk V=some b→s'.h.get b=s.h.get b):RowV ty s' V cs:=by
 rcases h with h|⟨id,ex,fz,rfl,hg,hf⟩
 ·exact Or.inl h
 ·exact Or.inr ⟨id,ex,fz,rfl,(hk id rfl).trans hg,hf⟩
theorem RowV.get (h:RowV ty s V cs) {b:Nat} (hb:blk V=some b):∃ fz,s.h.get b=some (.cells cs ty fz):=by
 rcases h with⟨rfl,rfl⟩|⟨id,ex,fz,rfl,hg,_⟩
 ·cases hb
 ·cases hb
  exact⟨fz,hg⟩
theorem qax {s:St} (hB:qc s) {i:Nat} {o:AO}:qc { h:=(s.h.del i).set s.nx o,nx:=s.nx+1 }:=by
 intro j y hj
 show j < s.nx+1
 by_cases e:j=s.nx
 ·omega
 ·have h1:((s.h.del i).set s.nx o).get j=(s.h.del i).get j:=qe e
  have h2:((s.h.del i).set s.nx o).get j=some y:=hj
  rw[h1,Tr.get_del] at h2
  by_cases e2:j=i
  ·rw[if_pos e2] at h2;cases h2
  ·rw[if_neg e2] at h2
   have:=hB j y h2
   omega
theorem Vl {cs:List AV} (h:∀ v∈cs,v.one=true):cs.all AV.one=true:=List.all_eq_true.mpr h
theorem qi9 {n:Nat}:Nat.beq n (n * 1)=true:=by rw[Nat.mul_one];exact Nat.beq_refl n
theorem qm3 (RT:RowT st ty el) (hB:qc s) (hV:RowV ty s V cs) (h1:∀ v∈cs,v.one=true) {i:Nat} (hi:i≤cs.length) (hn:cs.length≤1000) {x:AV} (hx:x.one=true) {q:Nat} (hq:s.h.get q=some (.cells [x] ty 0)) (hqV:blk V≠some q) :
  ∃ Va Vb W V' s2 s3,qF TE st V none (some (.raw (.int .i64 (i:Int)))) none=some Va∧qF TE st V (some (.raw (.int .i64 (i:Int)))) none none=some Vb∧zO TE s [st,st] [.slice q 0 1 0 1 true,Vb]=some (W,s2) ∧
   zO TE s2 [st,st] [Va,W]=some (V',s3)∧RowV ty s3 V' (cs.take i++x::cs.drop i)∧qc s3∧s.nx≤s3.nx∧(∀ j,j < s.nx→blk V≠some j→s3.h.get j=s.h.get j)∧(∀ b,blk V'=some b→s.nx≤b) ∧
   (∀ j,j < s.nx→s2.h.get j=s.h.get j):=by
 have hql:=hB _ _ hq
 have hsz:=RT.sz
 have hby:=RT.by'
 have e3:∀ n,n≤2000→Nat.ble (n * el.bytes) 134217728=true:=fun n hn=>Nat.ble_eq.mpr (by have:=Nat.mul_le_mul hn hby;omega)
 have e4:∀ n,n≤2000→Nat.ble n 1048576=true:=fun n hn=>Nat.ble_eq.mpr (by omega)
 have a1:∀ n m (o:AO),Nat.ble (n+(m+1)) n=false:=fun n m _=>by
  cases hb:Nat.ble (n+(m+1)) n with
  | false=>rfl
  | true=>have:=Nat.ble_eq.mp hb;omega
 have c11:ZF 0 1 [x]=some [x]:=rfl
 have ax:[x].all AV.one=true:=by simp[hx]
 -- the inner append,of what stands behind
 have inner:∀ (Vb:AV) (r:List AV),K5 Vb=some r.length→zI s 1 r.length Vb=some r→r.length≤1000→(∀ v∈r,v.one=true) →
   ∃ W s2,zO TE s [st,st] [.slice q 0 1 0 1 true,Vb]=some (W,s2)∧(∃ id ex fz,W=.slice id 0 (1+r.length) 0 (1+r.length) ex∧s2.h.get id=some (.cells (x::r) ty fz)∧(id=q∨s.nx≤id))∧qc s2∧s.nx≤s2.nx∧∀ j,j < s.nx→s2.h.get j=s.h.get j:=by
  intro Vb r hl hf hr ho
  rw[RT.app]
  simp only[qy0,hl,hf,qi9,Vl ho,Bool.and_self,cond_true,ZZ,Zv hq]
  cases r with
  | nil =>
   have e1:Nat.ble 1 1=true:=rfl
   simp only[List.length_nil,Nat.add_zero,e1,cond_true,zj,Zv hq,List.all_nil,qji]
   refine⟨.slice q 0 1 0 1 true,{ s with h:=s.h.set q (.cells [x] ty 0) },rfl,⟨q,true,0,rfl,hs_same,Or.inl rfl⟩,qn hB hql _,Nat.le_refl _,fun j hj=>?_⟩
   show (s.h.set q _).get j=_
   by_cases e:j=q
   ·subst e;rw[hs_same,hq]
   ·exact qe e
  | cons y r =>
   have e1:Nat.ble (1+(r.length+1)) 1=false:=by
    cases hb:Nat.ble (1+(r.length+1)) 1 with
    | false=>rfl
    | true=>have:=Nat.ble_eq.mp hb;omega
   simp only[List.length_cons] at hr
   simp only[e1,cond_false,Nat.one_mul,hsz,c11,List.length_cons,e3 (1+(r.length+1)) (by omega),e4 (1+(r.length+1)) (by omega),Bool.and_self,cond_true]
   exact⟨_,_,rfl,⟨s.nx,false,_,rfl,qu,Or.inr (Nat.le_refl _)⟩,qx hB _,Nat.le_succ _,fun j hj=>zg (by omega)⟩
 rcases hV with⟨rfl,rfl⟩|⟨id,ex,fz,rfl,hg,hf⟩
 ·simp only[List.length_nil,Nat.le_zero_eq] at hi
  subst hi
  obtain⟨W,s2,w1,⟨wi,we,wf,rfl,wg,wq⟩,w3,w4,w5⟩:=inner nilS [] rfl rfl (by simp) (by simp)
  refine⟨nilS,nilS,_,.slice s2.nx 0 1 0 1 false,s2,s2.alloc (.cells [x] ty (2 * el.size)),by rw[RT.so0];rfl,by rw[RT.so0];rfl,w1,?_,Or.inr ⟨s2.nx,false,2 * el.size,rfl,qu,fun _=>by rw[hsz]⟩,qx w3 _,by show s.nx≤s2.nx+1;omega,fun j hj _=>?_,fun b hb=>?_,w5⟩
  ·rw[RT.app]
   simp only[qy0,K5,zI,Zv wg,List.length_nil,Nat.add_zero,Nat.mul_one,c11,ax,Bool.and_true]
   simp only[List.length_cons,List.length_nil,Nat.zero_add,Nat.beq_refl,cond_true,nilS,ZZ,e3 1 (by omega),e4 1 (by omega),Bool.and_self]
   rfl
  ·rw[zg (by omega),w5 j hj]
  ·have hb:some s2.nx=some b:=hb
   cases hb
   exact w4
 ·have hid:id < s.nx:=hB _ _ hg
  have hidq:id≠q:=fun e=>hqV (by rw[e];rfl)
  have hta:qF TE st (.slice id 0 cs.length 0 cs.length ex) none (some (.raw (.int .i64 (i:Int)))) none=some (.slice id 0 i 0 cs.length ex):=by
   rw[RT.so,Xz (i:=i) zC hi]
   simp
  obtain⟨Vb,hb1,hb2,hb3⟩:∃ Vb,qF TE st (.slice id 0 cs.length 0 cs.length ex) (some (.raw (.int .i64 (i:Int)))) none none=some Vb∧K5 Vb=some (cs.drop i).length∧zI s 1 (cs.drop i).length Vb=some (cs.drop i):=by
   rw[RT.so,qbd (i:=i) zC hi (Nat.le_refl _)]
   simp only
   by_cases hlt:i < cs.length
   ·rw[Nat.blt_eq.mpr hlt]
    refine⟨_,rfl,by simp[K5],?_⟩
    simp only[zI,Zv hg,Nat.zero_add,Nat.mul_one]
    rw[qb0 (by simp;omega),List.take_of_length_le (Nat.le_refl _)]
   ·have hie:i=cs.length:=by omega
    have e1:Nat.blt i cs.length=false:=by rw[← Bool.not_eq_true,Nat.blt_eq];exact hlt
    have hd:cs.drop i=[]:=List.drop_eq_nil_of_le (by omega)
    rw[e1,hd]
    by_cases h0:i=0
    ·subst h0
     refine⟨_,rfl,by show some (cs.length - 0)=some 0;rw[← hie],?_⟩
     simp only[zI,Zv hg,List.length_nil,Nat.zero_mul]
     rfl
    ·have e2:Nat.beq i 0=false:=QN h0
     rw[e2]
     cases ex with
     | true =>
      refine⟨_,rfl,rfl,?_⟩
      simp only[zI,Zv hg,List.length_nil,Nat.zero_mul]
      rfl
     | false=>exact⟨_,rfl,rfl,rfl⟩
  have hr:(cs.drop i).length≤1000:=by simp;omega
  obtain⟨W,s2,w1,⟨wi,we,wf,rfl,wg,wq⟩,w3,w4,w5⟩:=inner Vb (cs.drop i) hb2 hb3 hr (fun v hv=>h1 v (List.mem_of_mem_drop hv))
  have hg2:=(w5 id hid).trans hg
  have f2:zI s2 1 (1+(cs.drop i).length) (.slice wi 0 (1+(cs.drop i).length) 0 (1+(cs.drop i).length) we)=some (x::cs.drop i):=by
   simp only[zI,Zv wg,Nat.mul_one]
   rw[qb0 (by simp;omega),List.drop_zero,List.take_of_length_le (by simp;omega)]
  have nl:Nat.beq (x::cs.drop i).length (1+(cs.drop i).length)=true:=by
   rw[List.length_cons,Nat.add_comm];exact Nat.beq_refl _
  have ox:(x::cs.drop i).all AV.one=true:=Vl (fun v hv=>by
   rcases List.mem_cons.mp hv with rfl|hv
   ·exact hx
   ·exact h1 v (List.mem_of_mem_drop hv))
  have need:i+(1+(cs.drop i).length)=cs.length+1:=by simp;omega
  have e1:Nat.ble (cs.length+1) cs.length=false:=by
   cases hb:Nat.ble (cs.length+1) cs.length with
   | false=>rfl
   | true=>have:=Nat.ble_eq.mp hb;omega
  have ct:ZF 0 i cs=some (cs.take i):=ZC hi
  have hlen:(cs.take i++x::cs.drop i).length=cs.length+1:=by simp;omega
  cases ex with
  | true =>
   refine⟨_,Vb,_,.slice s2.nx 0 (cs.length+1) 0 (cs.length+1) false,s2,s2.alloc (.cells (cs.take i++x::cs.drop i) ty (2 * el.size)),hta,hb1,w1,?_,Or.inr ⟨s2.nx,false,2 * el.size,by rw[hlen],qu,fun _=>by rw[hsz]⟩,qx w3 _,by show s.nx≤s2.nx+1;omega,fun j hj _=>?_,fun b hb=>?_,w5⟩
   ·rw[RT.app]
    simp only[qy0,K5,f2,nl,ox,Bool.and_self,cond_true,ZZ,Zv hg2,need,e1,cond_false,hsz,Nat.mul_one,ct,e3 (cs.length+1) (by omega),e4 (cs.length+1) (by omega)]
   ·rw[zg (by omega),w5 j hj]
   ·have hb:some s2.nx=some b:=hb
    cases hb
    exact w4
  | false =>
   have hfz:=hf rfl
   subst hfz
   refine⟨_,Vb,_,.slice s2.nx 0 (cs.length+1) 0 (cs.length+1) false,s2,{ h:=(s2.h.del id).set s2.nx (.cells (cs.take i++x::cs.drop i) ty 2),nx:=s2.nx+1 },hta,hb1,w1,?_,Or.inr ⟨s2.nx,false,2,by rw[hlen],hs_same,fun _=>rfl⟩,qax w3,by show s.nx≤s2.nx+1;omega,fun j hj hne=>?_,fun b hb=>?_,w5⟩
   ·rw[RT.app]
    simp only[qy0,K5,f2,nl,ox,Bool.and_self,cond_true,ZZ,Zv hg2,need,e1,cond_false,hsz,Nat.mul_one,ct,e3 (cs.length+1) (by omega),e4 (cs.length+1) (by omega),Nat.beq_refl,Nat.zero_mul]
    rfl
   ·show ((s2.h.del id).set s2.nx _).get j=_
    rw[qe (by omega),Tr.get_del,if_neg (fun e=>hne (by rw[e];rfl)),w5 j hj]
   ·have hb:some s2.nx=some b:=hb
    cases hb
    exact w4
end
end Go.AX
namespace Go.AX
open Go.Proofs Go.RowKit
set_option maxRecDepth 1000000
set_option maxHeartbeats 40000000
set_option linter.unusedSimpArgs false
set_option linter.unusedVariables false
structure RN where
 id:Int
 kind:Int
 mode:Int
 data:List Nat
 names:List (List Nat)
 kids:List Nat
 up:Option Nat
structure RM where
 nodes:List RN
 cwd:Nat
 fds:List (Option Nat)
 next:Int
def rnA (ι:Nat→Nat) (nd:RN) (V K:AV):AO:=.cells [.raw (.int .i64 nd.id),.raw (.int .i64 nd.kind),.raw (.int .i64 nd.mode),.str nd.data,V,K,upA (nd.up.map ι)] 107 0
def rtA (r c:Nat) (F:AV) (nx:Int):AO:=.cells [.ptr r 0,.ptr c 0,F,.raw (.int .i64 1024),.raw (.int .i64 512),.raw (.int .i64 128),.raw (.int .i64 nx),.raw (.bool false)] 86 0
def Qh (ι:Nat→Nat) (l:List Nat):List AV:=l.map fun j=>.ptr (ι j) 0
structure RepR (s:St) (x:Nat) (R:RM) (ι:Nat→Nat) (ν κ:Nat→AV) (φ:AV):Prop where
 nd:∀ (k:Nat) (nd:RN),R.nodes[k]?=some nd→s.h.get (ι k)=some (rnA ι nd (ν k) (κ k))∧RowV 9 s (ν k) (nd.names.map .str)∧RowV 75 s (κ k) (Qh ι nd.kids)
 tr:s.h.get x=some (rtA (ι 0) (ι R.cwd) φ R.next)
 fd:RowV 75 s φ (R.fds.map fun o=>upA (o.map ι))
 ij:∀ j k,j < R.nodes.length→k < R.nodes.length→ι j=ι k→j=k
 nj:∀ j k b,j < R.nodes.length→k < R.nodes.length→blk (ν j)=some b→blk (ν k)=some b→j=k
 kj:∀ j k b,j < R.nodes.length→k < R.nodes.length→blk (κ j)=some b→blk (κ k)=some b→j=k
 fj:∀ k b,k < R.nodes.length→blk (κ k)=some b→blk φ≠some b
 kd:∀ (k:Nat) (nd:RN),R.nodes[k]?=some nd→∀ j∈nd.kids,j < R.nodes.length
 up:∀ (k:Nat) (nd:RN) (u:Nat),R.nodes[k]?=some nd→nd.up=some u→u < R.nodes.length
 rt:0 < R.nodes.length
 cw:R.cwd < R.nodes.length
 fo:∀ o∈R.fds,∀ k,o=some k→k < R.nodes.length
 nn:∀ (k:Nat) (nd:RN),R.nodes[k]?=some nd→nd.kids.length=nd.names.length∧nd.names.length≤900
 nx:0≤R.next∧R.next≤1000000000
def Jz (x:Nat) (R:RM) (ι:Nat→Nat) (ν κ:Nat→AV) (φ:AV) (i:Nat):Prop:=i=x∨(∃ k,k < R.nodes.length∧(i=ι k∨blk (ν k)=some i∨blk (κ k)=some i))∨blk φ=some i
theorem qjq (s:St) (x o:Nat):Q3 TE s 75 (.ptr x o)=ldC s x o:=ZP (by kernel_rfl)
theorem qyc (s:St) (x o:Nat) (v:AV) (h1:v.cells=[v]) (h2:v.one=true):Qu TE s 75 (.ptr x o) v=stC s x o v:=VC (by kernel_rfl) h1 h2
theorem qft (s:St) (x o:Nat):Q3 TE s 84 (.ptr x o)=ldC s x o:=ZP (by kernel_rfl)
theorem q3u (s:St) (x o:Nat) (v:AV) (h1:v.cells=[v]) (h2:v.one=true):Qu TE s 84 (.ptr x o) v=stC s x o v:=VC (by kernel_rfl) h1 h2
theorem q6y {x:Nat}:qk TE 107 (.ptr x 0) 0=some (.ptr x 0):=by kernel_rfl
theorem qg1 {x:Nat}:qk TE 107 (.ptr x 0) 1=some (.ptr x 1):=by kernel_rfl
theorem quv {x:Nat}:qk TE 107 (.ptr x 0) 2=some (.ptr x 2):=by kernel_rfl
theorem q8m {x:Nat}:qk TE 107 (.ptr x 0) 3=some (.ptr x 3):=by kernel_rfl
theorem qgk {x:Nat}:qk TE 107 (.ptr x 0) 4=some (.ptr x 4):=by kernel_rfl
theorem qfd {x:Nat}:qk TE 107 (.ptr x 0) 5=some (.ptr x 5):=by kernel_rfl
theorem qv4 {x:Nat}:qk TE 107 (.ptr x 0) 6=some (.ptr x 6):=by kernel_rfl
theorem qxx {x:Nat}:qk TE 86 (.ptr x 0) 0=some (.ptr x 0):=by kernel_rfl
theorem q7l {x:Nat}:qk TE 86 (.ptr x 0) 6=some (.ptr x 6):=by kernel_rfl
section
variable {ι:Nat→Nat} {nd:RN} {V K:AV}
theorem qyj:ldO (some (rnA ι nd V K)) 1=some (.raw (.int .i64 nd.kind)):=(rfl)
theorem lr_2:ldO (some (rnA ι nd V K)) 2=some (.raw (.int .i64 nd.mode)):=(rfl)
theorem lr_3:ldO (some (rnA ι nd V K)) 3=some (.str nd.data):=(rfl)
theorem qv1:ldO (some (rnA ι nd V K)) 4=some V:=(rfl)
theorem qt0:ldO (some (rnA ι nd V K)) 5=some K:=(rfl)
theorem qa3 {b:Bool}:inO (some (rnA ι nd V K)) b=b:=(rfl)
end
theorem quk {a b:List Nat}:qE .lss (.str a) (.str b)=some (q8 (ltB a b)):=(rfl)
def zH (nm:List Nat):List (List Nat)→Nat
 | []=>0
 | p::l=>bif ltB p nm then zH nm l+1 else 0
theorem We {nm:List Nat}:∀ {l:List (List Nat)},zH nm l≤l.length
 | []=>Nat.le_refl _
 | p::l=>by
  have:=We (nm:=nm) (l:=l)
  simp only[zH]
  cases ltB p nm <;> simp only[cond_true,cond_false,List.length_cons] <;> omega
theorem qm7 {nm:List Nat} {l:List (List Nat)} {k:Nat} (h:zH nm l=k+zH nm (l.drop k)) (hs:l[k]?=none∨∃ p,l[k]?=some p∧ltB p nm=false):zH nm l=k:=by
 rw[h]
 have:zH nm (l.drop k)=0:=by
  rcases hs with hs|⟨p,hs,hp⟩
  ·rw[List.getElem?_eq_none_iff] at hs
   rw[List.drop_eq_nil_of_le hs]
   rfl
  ·obtain⟨hl,rfl⟩:=List.getElem?_eq_some_iff.mp hs
   rw[List.drop_eq_getElem_cons hl]
   simp only[zH,hp,cond_false]
 omega
def qri (nm:List Nat) (l:List (List Nat)):Bool:=match l[zH nm l]? with
 | some p=>eqB p nm
 | none=>false
def ZI (nd:RN) (nm:List Nat):Option Nat:=bif qri nm nd.names then nd.kids[zH nm nd.names]? else none
theorem QD {i:Nat}:upA (some i)=.ptr i 0:=(rfl)
theorem Xb:upA none=.raw (.pointer none):=(rfl)
theorem qsa {s:St} (H:Ok TE Tryz.prog pr3) {ι:Nat→Nat} {nd:RN} {V K:AV} {i:Nat} {nm:List Nat} (hi:s.h.get i=some (rnA ι nd V K)) (hV:RowV 9 s V (nd.names.map .str)) (hK:RowV 75 s K (Qh ι nd.kids))
  (hl:nd.kids.length=nd.names.length) (hn:nd.names.length≤1000) {kr kp:AV→St→Bool} (hk:kr (.tuple [upA ((ZI nd nm).map ι),.raw (.int .i64 (zH nm nd.names:Int))]) s=true) :
  (sem Tryz.prog).call 70 [.ptr i 0,.str nm] s kr kp=true:=by
 refine qp H 54 q7f rfl rfl ?_
 have vl:=hV.len q0d
 rw[List.length_map] at vl
 have vi:=hV.ids
 have ki:=hK.ids
 have gv:∀ {k:Nat} {p:List Nat},nd.names[k]?=some p→(nd.names.map AV.str)[k]?=some (.str p):=fun h=>by rw[List.getElem?_map,h];rfl
 repeat (first|with_reducible (refine q9 H ?_;constructor)|simp only[rB,rP,rQ,q8,qa,q7,qb,reduceIte,reduceCtorEq,Nat.reduceAdd,Nat.reduceLT,Nat.reduceEqDiff,UInt8.reduceToNat,pe3,pf3])
 refine qB H (fun n t s'=>∃ k:Nat,n+k=nd.names.length∧s'=s∧tg t 0=.ptr i 0∧tg t 1=.str nm∧tg t 6=.raw (.int .i64 (k:Int))∧zH nm nd.names=k+zH nm (nd.names.drop k)) (n:=nd.names.length)
  ⟨0,rfl,rfl,by simp only[rB,rP,rQ,q8,qa,q7,qb,reduceIte,reduceCtorEq,Nat.reduceAdd,Nat.reduceLT,Nat.reduceEqDiff,UInt8.reduceToNat],by simp only[rB,rP,rQ,q8,qa,q7,qb,reduceIte,reduceCtorEq,Nat.reduceAdd,Nat.reduceLT,Nat.reduceEqDiff,UInt8.reduceToNat],by simp only[rB,rP,rQ,q8,qa,q7,qb,reduceIte,reduceCtorEq,Nat.reduceAdd,Nat.reduceLT,Nat.reduceEqDiff,UInt8.reduceToNat];rfl,by simp⟩ ?_
 rintro n t s' ih ⟨k,hn',rfl,t0,t1,t6,hp⟩
 have tail:(nd.names[k]?=none∨∃ p,nd.names[k]?=some p∧ltB p nm=false)→zH nm nd.names=k:=qm7 hp
 cases n with
 | zero =>
  have g0:=QO (a:=k) (b:=nd.names.length) (by omega)
  have hnone:nd.names[k]?=none:=List.getElem?_eq_none (by omega)
  have e:=tail (Or.inl hnone)
  have hk0:ZI nd nm=none:=by unfold ZI qri;rw[e,hnone];rfl
  rw[hk0,e] at hk
  repeat (first|with_reducible (refine q9 H ?_;constructor)|simp only[rB,rP,rQ,q8,qa,q7,qb,reduceIte,reduceCtorEq,Nat.reduceAdd,Nat.reduceLT,Nat.reduceEqDiff,UInt8.reduceToNat,pe3,pf3,t0,t1,t6,qV,qgk,QJ,hi,qv1,qa3,vl,vi,zJ,g0,Tryz.results70])
  exact hk
 | succ n =>
  have hlt:k < nd.names.length:=by omega
  have g0:=Yd hlt
  have ew:=zL (k:=k) (by omega)
  have hx:nd.names[k]?=some nd.names[k]:=List.getElem?_eq_getElem hlt
  rw[List.drop_eq_getElem_cons hlt] at hp
  generalize nd.names[k]=p at hx hp
  obtain⟨id,i1,i2,i3,_⟩:=hV.at q0d (gv hx)
  cases hlp:ltB p nm with
  | true =>
   repeat (first|with_reducible (refine q9 H ?_;constructor)|simp only[rB,rP,rQ,q8,qa,q7,qb,reduceIte,reduceCtorEq,Nat.reduceAdd,Nat.reduceLT,Nat.reduceEqDiff,UInt8.reduceToNat,pe3,pf3,t0,t1,t6,qV,qgk,QJ,qD,hi,qv1,qa3,vl,vi,zJ,g0,i1,i2,i3,quk,hlp,qI,ew])
   refine ih n _ _ (Nat.lt_succ_self n) ⟨k+1,by omega,rfl,by simp only[rB,rP,rQ,q8,qa,q7,qb,reduceIte,reduceCtorEq,Nat.reduceAdd,Nat.reduceLT,Nat.reduceEqDiff,UInt8.reduceToNat,t0],by simp only[rB,rP,rQ,q8,qa,q7,qb,reduceIte,reduceCtorEq,Nat.reduceAdd,Nat.reduceLT,Nat.reduceEqDiff,UInt8.reduceToNat,t1],by simp only[rB,rP,rQ,q8,qa,q7,qb,reduceIte,reduceCtorEq,Nat.reduceAdd,Nat.reduceLT,Nat.reduceEqDiff,UInt8.reduceToNat],?_⟩
   rw[hp]
   simp only[zH,hlp,cond_true]
   omega
  | false =>
   have e:=tail (Or.inr ⟨p,hx,hlp⟩)
   cases heq:eqB p nm with
   | false =>
    have hk0:ZI nd nm=none:=by unfold ZI qri;rw[e,hx];simp only[heq,cond_false]
    rw[hk0,e] at hk
    repeat (first|with_reducible (refine q9 H ?_;constructor)|simp only[rB,rP,rQ,q8,qa,q7,qb,reduceIte,reduceCtorEq,Nat.reduceAdd,Nat.reduceLT,Nat.reduceEqDiff,UInt8.reduceToNat,pe3,pf3,t0,t1,t6,qV,qgk,QJ,qD,hi,qv1,qa3,vl,vi,zJ,g0,i1,i2,i3,quk,hlp,zz,heq,Tryz.results70])
    exact hk
   | true =>
    have hkl:k < nd.kids.length:=by omega
    have hkk:nd.kids[k]?=some nd.kids[k]:=List.getElem?_eq_getElem hkl
    have hk0:ZI nd nm=some nd.kids[k]:=by unfold ZI qri;rw[e,hx];simp only[heq,cond_true];exact hkk
    rw[hk0,e] at hk
    generalize nd.kids[k]=j at hkk hk
    obtain⟨id',j1,j2,j3,_⟩:=hK.at qt6 (k:=k) (v:=.ptr (ι j) 0) (by unfold Qh;rw[List.getElem?_map,hkk];rfl)
    repeat (first|with_reducible (refine q9 H ?_;constructor)|simp only[rB,rP,rQ,q8,qa,q7,qb,reduceIte,reduceCtorEq,Nat.reduceAdd,Nat.reduceLT,Nat.reduceEqDiff,UInt8.reduceToNat,pe3,pf3,t0,t1,t6,qV,qgk,qfd,QJ,qD,qft,qjq,hi,qv1,qt0,qa3,vl,vi,ki,zJ,g0,i1,i2,i3,j1,j2,j3,quk,hlp,zz,heq,Tryz.results70])
    exact hk
end Go.AX
namespace Go.AX
open Go.Proofs Go.RowKit
set_option maxRecDepth 1000000
set_option maxHeartbeats 40000000
set_option linter.unusedSimpArgs false
set_option linter.unusedVariables false
structure Nxt (s s':St) (O O':Nat→Prop):Prop where
 nx:s.nx≤s'.nx
 fr:∀ i,i < s.nx→¬ O i→s'.h.get i=s.h.get i
 ow:∀ i,O' i→O i∨s.nx≤i
theorem Nxt.refl {s:St} {O:Nat→Prop}:Nxt s s O O:=⟨Nat.le_refl _,fun _ _ _=>rfl,fun _ h=>Or.inl h⟩
theorem Nxt.trans {s s' s'':St} {O O' O'':Nat→Prop} (h:Nxt s s' O O') (h':Nxt s' s'' O' O''):Nxt s s'' O O'':=by
 refine⟨Nat.le_trans h.nx h'.nx,fun i hi hn=>?_,fun i hi=>?_⟩
 ·have h1:=h.nx
  refine (h'.fr i (by omega) (fun ho=>?_)).trans (h.fr i hi hn)
  rcases h.ow i ho with h2|h2
  ·exact hn h2
  ·omega
 ·rcases h'.ow i hi with h2|h2
  ·exact h.ow i h2
  ·have:=h.nx
   exact Or.inr (by omega)
theorem Nxt.of_ext {s s' s'':St} {O O':Nat→Prop} (hE:Ext s s') (h:Nxt s' s'' O O'):Nxt s s'' O O':=by
 have hn:=hE.1
 exact⟨Nat.le_trans hn h.nx,fun i hi ho=>(h.fr i (by omega) ho).trans (hE.2 i hi),fun i hi=>by
  rcases h.ow i hi with h2|h2
  ·exact Or.inl h2
  ·exact Or.inr (by omega)⟩
theorem Nxt.held {s s':St} {O O':Nat→Prop} (h:Nxt s s' O O') (hB:qc s) {L:List (Nat × AO)} (hL:∀ q∈L,s.h.get q.1=some q.2∧¬ O q.1):∀ q∈L,s'.h.get q.1=some q.2∧¬ O' q.1:=by
 intro q hq
 obtain⟨h1,h2⟩:=hL q hq
 have hl:=hB _ _ h1
 refine⟨(h.fr _ hl h2).trans h1,fun ho=>?_⟩
 rcases h.ow _ ho with h3|h3
 ·exact h2 h3
 ·omega
def qj4 (ν:Nat→AV) (k:Nat) (V:AV):Nat→AV:=fun j=>if j=k then V else ν j
theorem Q2 {ν:Nat→AV} {k:Nat} {V:AV}:qj4 ν k V k=V:=if_pos rfl
theorem zU {ν:Nat→AV} {k j:Nat} {V:AV} (h:j≠k):qj4 ν k V j=ν j:=if_neg h
theorem Qk {ν:Nat→AV} {k:Nat}:qj4 ν k (ν k)=ν:=by
 funext j
 unfold qj4
 split
 ·next h=>rw[h]
 ·rfl
theorem qqs {s:St} {ι:Nat→Nat} {nd:RN} {V K:AV} {i ty fz:Nat} {cs:List AV} (h1:s.h.get i=some (rnA ι nd V K)) (h2:s.h.get i=some (.cells cs ty fz)):ty=107:=by
 unfold rnA at h1
 rw[h1] at h2
 injection h2 with h2
 injection h2 with _ h _
 exact h.symm
theorem qt4 {s:St} {ty ty':Nat} {V V':AV} {cs cs':List AV} {b:Nat} (h:RowV ty s V cs) (h':RowV ty' s V' cs') (hb:blk V=some b) (hb':blk V'=some b):ty=ty':=by
 obtain⟨fz,e⟩:=h.get hb
 obtain⟨fz',e'⟩:=h'.get hb'
 rw[e] at e'
 injection e' with e'
 injection e' with _ h _
theorem RepR.node_of {s:St} {x:Nat} {R:RM} {ι:Nat→Nat} {ν κ:Nat→AV} {φ:AV} (_:RepR s x R ι ν κ φ) {k:Nat} (h:k < R.nodes.length):∃ nd,R.nodes[k]?=some nd:=⟨_,List.getElem?_eq_getElem h⟩
section
variable {s:St} {x:Nat} {R:RM} {ι:Nat→Nat} {ν κ:Nat→AV} {φ:AV} (Rp:RepR s x R ι ν κ φ)
include Rp
theorem RepR.li (hB:qc s) {k:Nat} (h:k < R.nodes.length):ι k < s.nx:=by
 obtain⟨nd,hn⟩:=Rp.node_of h
 exact hB _ _ (Rp.nd k nd hn).1
theorem RepR.lx (hB:qc s):x < s.nx:=hB _ _ Rp.tr
theorem RepR.ix {k:Nat} (h:k < R.nodes.length):ι k≠x:=by
 intro e
 obtain⟨nd,hn⟩:=Rp.node_of h
 have h1:=(Rp.nd k nd hn).1
 have h2:=Rp.tr
 rw[← e] at h2
 exact absurd (qqs h1 h2) (by decide)
theorem RepR.vi {j k b:Nat} (hj:j < R.nodes.length) (hk:k < R.nodes.length) (hb:blk (ν j)=some b):b≠ι k:=by
 intro e
 obtain⟨nd,hn⟩:=Rp.node_of hj
 obtain⟨nd',hn'⟩:=Rp.node_of hk
 obtain⟨fz,h2⟩:=(Rp.nd j nd hn).2.1.get hb
 rw[e] at h2
 exact absurd (qqs (Rp.nd k nd' hn').1 h2) (by decide)
theorem RepR.ki {j k b:Nat} (hj:j < R.nodes.length) (hk:k < R.nodes.length) (hb:blk (κ j)=some b):b≠ι k:=by
 intro e
 obtain⟨nd,hn⟩:=Rp.node_of hj
 obtain⟨nd',hn'⟩:=Rp.node_of hk
 obtain⟨fz,h2⟩:=(Rp.nd j nd hn).2.2.get hb
 rw[e] at h2
 exact absurd (qqs (Rp.nd k nd' hn').1 h2) (by decide)
theorem RepR.vk {j k b:Nat} (hj:j < R.nodes.length) (hk:k < R.nodes.length) (hb:blk (ν j)=some b):blk (κ k)≠some b:=by
 intro e
 obtain⟨nd,hn⟩:=Rp.node_of hj
 obtain⟨nd',hn'⟩:=Rp.node_of hk
 exact absurd (qt4 (Rp.nd j nd hn).2.1 (Rp.nd k nd' hn').2.2 hb e) (by decide)
theorem RepR.vf {j b:Nat} (hj:j < R.nodes.length) (hb:blk (ν j)=some b):blk φ≠some b:=by
 intro e
 obtain⟨nd,hn⟩:=Rp.node_of hj
 exact absurd (qt4 (Rp.nd j nd hn).2.1 Rp.fd hb e) (by decide)
theorem RepR.fi {k b:Nat} (hk:k < R.nodes.length) (hb:blk φ=some b):b≠ι k:=by
 intro e
 obtain⟨nd',hn'⟩:=Rp.node_of hk
 obtain⟨fz,h2⟩:=Rp.fd.get hb
 rw[e] at h2
 exact absurd (qqs (Rp.nd k nd' hn').1 h2) (by decide)
theorem RepR.rx {ty b:Nat} {V:AV} {cs:List AV} (h:RowV ty s V cs) (hb:blk V=some b) (ht:ty≠86):b≠x:=by
 intro e
 obtain⟨fz,h2⟩:=h.get hb
 have h3:=Rp.tr
 rw[e,h3] at h2
 injection h2 with h2
 injection h2 with _ h4 _
 exact ht h4.symm
theorem RepR.node (hB:qc s) {k:Nat} {nd nd':RN} (hk:R.nodes[k]?=some nd) {V' K':AV} {s':St}
  (g:s'.h.get (ι k)=some (rnA ι nd' V' K')) (gV:RowV 9 s' V' (nd'.names.map .str)) (gK:RowV 75 s' K' (Qh ι nd'.kids))
  (oV:∀ b,blk V'=some b→blk (ν k)=some b∨s.nx≤b) (oK:∀ b,blk K'=some b→blk (κ k)=some b∨s.nx≤b) (hnx:s.nx≤s'.nx)
  (fr:∀ i,i < s.nx→i≠ι k→blk (ν k)≠some i→blk (κ k)≠some i→s'.h.get i=s.h.get i)
  (kd':∀ j∈nd'.kids,j < R.nodes.length) (up':∀ u,nd'.up=some u→u < R.nodes.length) (nn':nd'.kids.length=nd'.names.length∧nd'.names.length≤900) :
  RepR s' x { R with nodes:=R.nodes.set k nd' } ι (qj4 ν k V') (qj4 κ k K') φ∧Nxt s s' (Jz x R ι ν κ φ) (Jz x { R with nodes:=R.nodes.set k nd' } ι (qj4 ν k V') (qj4 κ k K') φ):=by
 have hkl:=(List.getElem?_eq_some_iff.mp hk).1
 have hlen:(R.nodes.set k nd').length=R.nodes.length:=List.length_set
 have hT:∀ j jd,(R.nodes.set k nd')[j]?=some jd→(j=k∧jd=nd')∨(j≠k∧R.nodes[j]?=some jd):=by
  intro j jd h
  rw[List.getElem?_set] at h
  by_cases e:k=j
  ·rw[if_pos e,if_pos hkl] at h
   cases h
   exact Or.inl ⟨e.symm,rfl⟩
  ·rw[if_neg e] at h
   exact Or.inr ⟨fun e'=>e e'.symm,h⟩
 have ltV:∀ j b,j < R.nodes.length→blk (ν j)=some b→b < s.nx:=fun j b hj hb=>by
  obtain⟨jd,hjd⟩:=Rp.node_of hj
  exact (Rp.nd j jd hjd).2.1.lt hB hb
 have ltK:∀ j b,j < R.nodes.length→blk (κ j)=some b→b < s.nx:=fun j b hj hb=>by
  obtain⟨jd,hjd⟩:=Rp.node_of hj
  exact (Rp.nd j jd hjd).2.2.lt hB hb
 have ltF:∀ b,blk φ=some b→b < s.nx:=fun b hb=>Rp.fd.lt hB hb
 refine⟨⟨?_,?_,?_,Rp.ij |> fun h=>by intro a b ha hb;rw[hlen] at ha hb;exact h a b ha hb,?_,?_,?_,?_,?_,?_,?_,?_,?_,Rp.nx⟩,hnx,?_,?_⟩
 ·intro j jd h
  rcases hT j jd h with⟨rfl,rfl⟩|⟨hjk,hj⟩
  ·rw[Q2,Q2]
   exact⟨g,gV,gK⟩
  ·rw[zU hjk,zU hjk]
   have hjl:=(List.getElem?_eq_some_iff.mp hj).1
   obtain⟨o1,o2,o3⟩:=Rp.nd j jd hj
   refine⟨(fr _ (Rp.li hB hjl) (fun e=>hjk (Rp.ij _ _ hjl hkl e)) (fun e=>Rp.vi hkl hjl e rfl) (fun e=>Rp.ki hkl hjl e rfl)).trans o1,o2.keep (fun b hb=>fr b (ltV j b hjl hb) (Rp.vi hjl hkl hb) (fun e=>hjk (Rp.nj _ _ _ hjl hkl hb e)) (Rp.vk hjl hkl hb)),o3.keep (fun b hb=>fr b (ltK j b hjl hb) (Rp.ki hjl hkl hb) (fun e=>Rp.vk hkl hjl e hb) (fun e=>hjk (Rp.kj _ _ _ hjl hkl hb e)))⟩
 ·refine (fr x (Rp.lx hB) (fun e=>Rp.ix hkl e.symm) (fun e=>Rp.rx (Rp.nd k nd hk).2.1 e (by decide) rfl) (fun e=>Rp.rx (Rp.nd k nd hk).2.2 e (by decide) rfl)).trans Rp.tr
 ·exact Rp.fd.keep (fun b hb=>fr b (ltF b hb) (Rp.fi hkl hb) (fun e=>Rp.vf hkl e hb) (fun e=>Rp.fj k b hkl e hb))
 ·intro a b c ha hb ea eb
  rw[hlen] at ha hb
  by_cases h1:a=k
  ·by_cases h2:b=k
   ·rw[h1,h2]
   ·exfalso
    rw[h1,Q2] at ea
    rw[zU h2] at eb
    rcases oV c ea with h3|h3
    ·exact h2 (Rp.nj _ _ _ hb hkl eb h3)
    ·have:=ltV b c hb eb;omega
  ·rw[zU h1] at ea
   by_cases h2:b=k
   ·exfalso
    rw[h2,Q2] at eb
    rcases oV c eb with h3|h3
    ·exact h1 (Rp.nj _ _ _ ha hkl ea h3)
    ·have:=ltV a c ha ea;omega
   ·rw[zU h2] at eb
    exact Rp.nj _ _ _ ha hb ea eb
 ·intro a b c ha hb ea eb
  rw[hlen] at ha hb
  by_cases h1:a=k
  ·by_cases h2:b=k
   ·rw[h1,h2]
   ·exfalso
    rw[h1,Q2] at ea
    rw[zU h2] at eb
    rcases oK c ea with h3|h3
    ·exact h2 (Rp.kj _ _ _ hb hkl eb h3)
    ·have:=ltK b c hb eb;omega
  ·rw[zU h1] at ea
   by_cases h2:b=k
   ·exfalso
    rw[h2,Q2] at eb
    rcases oK c eb with h3|h3
    ·exact h1 (Rp.kj _ _ _ ha hkl ea h3)
    ·have:=ltK a c ha ea;omega
   ·rw[zU h2] at eb
    exact Rp.kj _ _ _ ha hb ea eb
 ·intro a c ha ea
  rw[hlen] at ha
  by_cases h1:a=k
  ·rw[h1,Q2] at ea
   rcases oK c ea with h3|h3
   ·exact Rp.fj k c hkl h3
   ·intro e;have:=ltF c e;omega
  ·rw[zU h1] at ea
   exact Rp.fj a c ha ea
 ·intro j jd h q hq
  show q < (R.nodes.set k nd').length
  rw[hlen]
  rcases hT j jd h with⟨rfl,rfl⟩|⟨_,hj⟩
  ·exact kd' q hq
  ·exact Rp.kd j jd hj q hq
 ·intro j jd u h hu
  show u < (R.nodes.set k nd').length
  rw[hlen]
  rcases hT j jd h with⟨rfl,rfl⟩|⟨_,hj⟩
  ·exact up' u hu
  ·exact Rp.up j jd u hj hu
 ·show 0 < (R.nodes.set k nd').length;rw[hlen];exact Rp.rt
 ·show R.cwd < (R.nodes.set k nd').length;rw[hlen];exact Rp.cw
 ·intro o ho u hu
  show u < (R.nodes.set k nd').length
  rw[hlen]
  exact Rp.fo o ho u hu
 ·intro j jd h
  rcases hT j jd h with⟨rfl,rfl⟩|⟨_,hj⟩
  ·exact nn'
  ·exact Rp.nn j jd hj
 ·intro i hi hno
  refine fr i hi (fun e=>hno (Or.inr (Or.inl ⟨k,hkl,Or.inl e⟩))) (fun e=>hno (Or.inr (Or.inl ⟨k,hkl,Or.inr (Or.inl e)⟩))) (fun e=>hno (Or.inr (Or.inl ⟨k,hkl,Or.inr (Or.inr e)⟩)))
 ·intro i hi
  rcases hi with rfl|⟨j,hj,hj'⟩|hi
  ·exact Or.inl (Or.inl rfl)
  ·have hj:j < R.nodes.length:=by have:j < (R.nodes.set k nd').length:=hj;rw[hlen] at this;exact this
   rcases hj' with rfl|hj'|hj'
   ·exact Or.inl (Or.inr (Or.inl ⟨j,hj,Or.inl rfl⟩))
   ·by_cases e:j=k
    ·rw[e,Q2] at hj'
     rcases oV i hj' with h3|h3
     ·exact Or.inl (Or.inr (Or.inl ⟨k,hkl,Or.inr (Or.inl h3)⟩))
     ·exact Or.inr h3
    ·rw[zU e] at hj'
     exact Or.inl (Or.inr (Or.inl ⟨j,hj,Or.inr (Or.inl hj')⟩))
   ·by_cases e:j=k
    ·rw[e,Q2] at hj'
     rcases oK i hj' with h3|h3
     ·exact Or.inl (Or.inr (Or.inl ⟨k,hkl,Or.inr (Or.inr h3)⟩))
     ·exact Or.inr h3
    ·rw[zU e] at hj'
     exact Or.inl (Or.inr (Or.inl ⟨j,hj,Or.inr (Or.inr hj')⟩))
  ·exact Or.inl (Or.inr (Or.inr hi))
theorem RepR.keep {s':St} (hk:∀ i,Jz x R ι ν κ φ i→s'.h.get i=s.h.get i):RepR s' x R ι ν κ φ:=by
 refine⟨fun k nd h=>?_,(hk x (Or.inl rfl)).trans Rp.tr,Rp.fd.keep (fun b hb=>hk b (Or.inr (Or.inr hb))),Rp.ij,Rp.nj,Rp.kj,Rp.fj,Rp.kd,Rp.up,Rp.rt,Rp.cw,Rp.fo,Rp.nn,Rp.nx⟩
 have hl:=(List.getElem?_eq_some_iff.mp h).1
 obtain⟨h1,h2,h3⟩:=Rp.nd k nd h
 exact⟨(hk _ (Or.inr (Or.inl ⟨k,hl,Or.inl rfl⟩))).trans h1,h2.keep (fun b hb=>hk b (Or.inr (Or.inl ⟨k,hl,Or.inr (Or.inl hb)⟩))),h3.keep (fun b hb=>hk b (Or.inr (Or.inl ⟨k,hl,Or.inr (Or.inr hb)⟩)))⟩
theorem RepR.own_lt (hB:qc s) {i:Nat} (h:Jz x R ι ν κ φ i):i < s.nx:=by
 rcases h with rfl|⟨k,hk,h⟩|h
 ·exact Rp.lx hB
 ·obtain⟨nd,hn⟩:=Rp.node_of hk
  obtain⟨h1,h2,h3⟩:=Rp.nd k nd hn
  rcases h with rfl|h|h
  ·exact hB _ _ h1
  ·exact h2.lt hB h
  ·exact h3.lt hB h
 ·exact Rp.fd.lt hB h
theorem RepR.ext {s':St} (hB:qc s) (hE:Ext s s'):RepR s' x R ι ν κ φ:=Rp.keep (fun i hi=>hE.2 i (Rp.own_lt hB hi))
end
end Go.AX
namespace Go.AX
open Go.Proofs Go.RowKit
set_option maxRecDepth 1000000
set_option maxHeartbeats 40000000
set_option linter.unusedSimpArgs false
set_option linter.unusedVariables false
theorem q26 {s:St} {x u:Nat} {ι:Nat→Nat} {nd:RN} {V K:AV}:stO s x (some (rnA ι nd V K)) 6 (.ptr (ι u) 0)=some { s with h:=s.h.set x (rnA ι { nd with up:=some u } V K) }:=(rfl)
theorem q88 {s:St} {x:Nat} {ι:Nat→Nat} {nd:RN} {V K V':AV}:stO s x (some (rnA ι nd V K)) 4 V'=some { s with h:=s.h.set x (rnA ι nd V' K) }:=(rfl)
theorem q9d {s:St} {x:Nat} {ι:Nat→Nat} {nd:RN} {V K K':AV}:stO s x (some (rnA ι nd V K)) 5 K'=some { s with h:=s.h.set x (rnA ι nd V K') }:=(rfl)
theorem sr_0 {s:St} {x:Nat} {ι:Nat→Nat} {nd:RN} {V K:AV} {z:Int}:stO s x (some (rnA ι nd V K)) 0 (.raw (.int .i64 z))=some { s with h:=s.h.set x (rnA ι { nd with id:=z } V K) }:=(rfl)
theorem ql3 {o:Option Nat}:(upA o).cells=[upA o]:=by cases o <;> rfl
theorem qrq {ι:Nat→Nat} {nd:RN} {V K:AV}:WA (rnA ι nd V K) (rnA ι nd V K)=(beqA V V&&beqA K K):=by
 have h:beqA (upA (nd.up.map ι)) (upA (nd.up.map ι))=true:=by cases nd.up <;> simp[upA,qtf,qox]
 simp[rnA,WA,Zr,h,qpi,qi0]
theorem bs_n {s:St} {i:Nat}:zq TE s 84 1 [(0,.ptr i 0)]=some (.slice s.nx 0 1 0 1 true,s.alloc (.cells [.ptr i 0] 75 0)):=by kernel_rfl
theorem qr8 {s:St} {i j:Nat} {d:Option (AV × List Nat)}:eqS TE s .neq 75 (.ptr i j) (.raw (.pointer none)) d=some (.raw (.bool true),[]):=by kernel_rfl
theorem qok {s:St} {i j:Nat} {d:Option (AV × List Nat)}:eqS TE s .eql 75 (.ptr i j) (.raw (.pointer none)) d=some (.raw (.bool false),[]):=by kernel_rfl
theorem qxb {i:Nat}:qX TE.P (do let r ← (do eqGuard .neq 75 (.tmp i) (.const (.pointer none)) (.pointer none) (.pointer none);binOp .neq 75 (.pointer none) (.pointer none));pure (Next.value r))=some (.value (.bool false)):=by kernel_rfl
theorem qni {a:Ac} {dst:Option Tmp} {i:Nat} {ty:TypeId} {pos:String} {after:Array Edge} (hx:WF (a.eval (.tmp i))=true) :
  qt TE a ⟨dst,.binOp .neq 75 (.tmp i) (.const (.pointer none)) 75,ty,pos,after,none⟩=some (.raw (.bool false),[]):=by
 have hx:=Kx hx
 have h1:zh a (.tmp i)=.pointer none:=by simp[zh,hx,zu]
 have h2:zh a (.const (.pointer none))=.pointer none:=rfl
 have hall:(Op.operands (.binOp .neq 75 (.tmp i) (.const (.pointer none)) 75)).toList.all (fun x=>(zu (a.eval x)).isSome)=true:=by
  show (List.all [.tmp i,.const (.pointer none)] (fun x=>(zu (a.eval x)).isSome))=true
  simp only[List.all_cons,List.all_nil,hx]
  rfl
 have hr:qX TE.P (execOp (zh a) ⟨dst,.binOp .neq 75 (.tmp i) (.const (.pointer none)) 75,ty,pos,after,none⟩)=some (.value (.bool false)):=by
  have he:execOp (zh a) ⟨dst,.binOp .neq 75 (.tmp i) (.const (.pointer none)) 75,ty,pos,after,none⟩=(do let r ← (do eqGuard .neq 75 (.tmp i) (.const (.pointer none)) (.pointer none) (.pointer none);binOp .neq 75 (.pointer none) (.pointer none));pure (.value r)):=by
   simp only[execOp,h1,h2]
  rw[he]
  exact qxb
 simp only[qt,hall,cond_true,hr]
 rfl
theorem qgh {s:St} {d:Option (AV × List Nat)}:eqS TE s .neq 75 (.raw (.pointer none)) (.raw (.pointer none)) d=d:=by kernel_rfl
theorem qxl {i:Nat}:qX TE.P (do let r ← (do eqGuard .eql 75 (.tmp i) (.const (.pointer none)) (.pointer none) (.pointer none);binOp .eql 75 (.pointer none) (.pointer none));pure (Next.value r))=some (.value (.bool true)):=by kernel_rfl
theorem qmd {a:Ac} {dst:Option Tmp} {i:Nat} {ty:TypeId} {pos:String} {after:Array Edge} (hx:WF (a.eval (.tmp i))=true) :
  qt TE a ⟨dst,.binOp .eql 75 (.tmp i) (.const (.pointer none)) 75,ty,pos,after,none⟩=some (.raw (.bool true),[]):=by
 have hx:=Kx hx
 have h1:zh a (.tmp i)=.pointer none:=by simp[zh,hx,zu]
 have h2:zh a (.const (.pointer none))=.pointer none:=rfl
 have hall:(Op.operands (.binOp .eql 75 (.tmp i) (.const (.pointer none)) 75)).toList.all (fun x=>(zu (a.eval x)).isSome)=true:=by
  show (List.all [.tmp i,.const (.pointer none)] (fun x=>(zu (a.eval x)).isSome))=true
  simp only[List.all_cons,List.all_nil,hx]
  rfl
 have hr:qX TE.P (execOp (zh a) ⟨dst,.binOp .eql 75 (.tmp i) (.const (.pointer none)) 75,ty,pos,after,none⟩)=some (.value (.bool true)):=by
  have he:execOp (zh a) ⟨dst,.binOp .eql 75 (.tmp i) (.const (.pointer none)) 75,ty,pos,after,none⟩=(do let r ← (do eqGuard .eql 75 (.tmp i) (.const (.pointer none)) (.pointer none) (.pointer none);binOp .eql 75 (.pointer none) (.pointer none));pure (.value r)):=by
   simp only[execOp,h1,h2]
  rw[he]
  exact qxl
 simp only[qt,hall,cond_true,hr]
 rfl
theorem qht {s:St} {d:Option (AV × List Nat)}:eqS TE s .eql 75 (.raw (.pointer none)) (.raw (.pointer none)) d=d:=by kernel_rfl
def Y4 {α:Type} (i:Nat) (x:α) (l:List α):List α:=l.take i++x::l.drop i
theorem QX {α:Type} {i:Nat} {x:α} {l:List α} (h:i≤l.length):(Y4 i x l).length=l.length+1:=by unfold Y4;simp;omega
def qq8 (R:RM) (u:Nat) (ud:RN) (nm:List Nat) (j:Nat) (jd:RN):RM:={ R with nodes:=(R.nodes.set j { jd with up:=some u }).set u { ud with names:=Y4 (zH nm ud.names) nm ud.names,kids:=Y4 (zH nm ud.names) j ud.kids } }
theorem q7a {s:St} (H:Ok TE Tryz.prog pr3) {x:Nat} {R:RM} {ι:Nat→Nat} {ν κ:Nat→AV} {φ:AV} (Rp:RepR s x R ι ν κ φ) (hB:qc s) {u j:Nat} {ud jd:RN} (hu:R.nodes[u]?=some ud) (hj:R.nodes[j]?=some jd) (hju:j≠u) {nm:List Nat} (hnew:ZI ud nm=none)
  (hroom:ud.names.length < 900) {kr kp:AV→St→Bool} (hk:∀ s' ν' κ',RepR s' x (qq8 R u ud nm j jd) ι ν' κ' φ→qc s'→Nxt s s' (Jz x R ι ν κ φ) (Jz x (qq8 R u ud nm j jd) ι ν' κ' φ)→kr (.tuple []) s'=true) :
  (sem Tryz.prog).call 56 [.ptr (ι u) 0,.str nm,.ptr (ι j) 0] s kr kp=true:=by
 refine qp H 68 qy6 rfl rfl ?_
 obtain⟨u1,u2,u3⟩:=Rp.nd u ud hu
 obtain⟨j1,j2,j3⟩:=Rp.nd j jd hj
 have hul:=(List.getElem?_eq_some_iff.mp hu).1
 have hjl:=(List.getElem?_eq_some_iff.mp hj).1
 obtain⟨n1,n2⟩:=Rp.nn u ud hu
 repeat (first|with_reducible (refine q9 H ?_;constructor)|simp only[rB,rP,rQ,q8,qa,q7,qb,reduceIte,reduceCtorEq,Nat.reduceAdd,Nat.reduceLT,Nat.reduceEqDiff,UInt8.reduceToNat,pe3,pf3])
 refine qsa H u1 u2 u3 n1 (by omega) ?_
 rw[hnew]
 repeat (first|with_reducible (refine q9 H ?_;constructor)|simp only[rB,rP,rQ,q8,qa,q7,qb,reduceIte,reduceCtorEq,Nat.reduceAdd,Nat.reduceLT,Nat.reduceEqDiff,UInt8.reduceToNat,pe3,pf3,qV,qv4,qyc,j1,q26,Xb,Option.map_none,ql3,qu1,qgh,qni,ZY])
 generalize hs1:({ h:=s.h.set (ι j) (rnA ι { jd with up:=some u } (ν j) (κ j)),nx:=s.nx }:St)=s1
 have B1:qc s1:=by rw[← hs1];exact qn hB (Rp.li hB hjl) _
 have x1:s1.nx=s.nx:=by rw[← hs1]
 have g1:s1.h.get (ι u)=some (rnA ι ud (ν u) (κ u)):=by rw[← hs1];exact (qe (fun e=>hju (Rp.ij _ _ hjl hul e.symm))).trans u1
 have v1:RowV 9 s1 (ν u) (ud.names.map .str):=u2.keep (fun b hb=>by rw[← hs1];exact qe (Rp.vi hul hjl hb))
 have k1:RowV 75 s1 (κ u) (Qh ι ud.kids):=u3.keep (fun b hb=>by rw[← hs1];exact qe (Rp.ki hul hjl hb))
 have pl:=We (nm:=nm) (l:=ud.names)
 have v1a:RowV 9 (s1.alloc (.cells [.str nm] 9 0)) (ν u) (ud.names.map .str):=v1.keep (fun b hb=>zg (by have:=v1.lt B1 hb;omega))
 obtain⟨Va,Vb,W,V',s2,s3,c1,c2,c3,c4,r1,r2,r3,r4,r5,r6⟩:=qm3 q0d (qx B1 _) v1a (fun v hv=>by obtain⟨p,_,rfl⟩:=List.mem_map.mp hv;rfl) (i:=zH nm ud.names) (by rw[List.length_map];exact pl) (by rw[List.length_map];omega) (x:=.str nm) rfl (q:=s1.nx) qu (fun e=>by have:=v1.lt B1 e;omega)
 have bV:=v1.beq
 have bK:=k1.beq
 have lu:ι u < s1.nx:=by rw[x1];exact Rp.li hB hul
 have m1:(ι u=s1.nx)=False:=by simp;omega
 have g2:s2.h.get (ι u)=some (rnA ι ud (ν u) (κ u)):=(r6 _ (by show ι u < s1.nx+1;omega)).trans ((zg (by omega)).trans g1)
 have r4':∀ i,i < s1.nx→blk (ν u)≠some i→s3.h.get i=s1.h.get i:=fun i hi hne=>(r4 i (by show i < s1.nx+1;omega) hne).trans (zg (by omega))
 have g3:s3.h.get (ι u)=some (rnA ι ud (ν u) (κ u)):=(r4' _ lu (fun e=>Rp.vi hul hul e rfl)).trans g1
 obtain⟨cV1,cV2⟩:=r1.cells1
 repeat (first|with_reducible (refine q9 H ?_;constructor)|simp only[rB,rP,rQ,q8,qa,q7,qb,reduceIte,reduceCtorEq,Nat.reduceAdd,Nat.reduceLT,Nat.reduceEqDiff,UInt8.reduceToNat,pe3,pf3,qV,qgk,QJ,KU _ _ _ _ cV1 cV2,g1,g2,g3,m1,qv1,qa3,c1,c2,c3,c4,KX,bV,bK,qrq,q88]|(with_reducible refine qy H (i:=5) (.take 0 (.take 1 (.take 2 (.take 3 (.take 4 (.take 5 (.take 6 (.take 7 (.take 9 (.take 10 (.take 11 (.take 12 (.take 13 (.take 14 (.alt 8 [7] (.alt 15 [7,8,9,10,11,12,13,14] (.alt 16 [1,2,3,4,5,6,7,8,9,10,11,12,13,14,15] (.take 17 (.take 18 (.alt 19 [0,1,2,3,4,5,6,7,8,9,10,11,12,13,14,15,16,17,18] (.done) (.yes)))) (.yes)) (.yes)) (.yes)))))))))))))))) rfl (by kernel_rfl) ?_))
 generalize hs4:({ h:=s3.h.set (ι u) (rnA ι ud V' (κ u)),nx:=s3.nx }:St)=s4
 have lu3:ι u < s3.nx:=by have:=r3;have:s1.nx+1≤s3.nx:=this;omega
 have B4:qc s4:=by rw[← hs4];exact qn r2 lu3 _
 have x4:s4.nx=s3.nx:=by rw[← hs4]
 have n3:s1.nx < s3.nx:=by have:s1.nx+1≤s3.nx:=r3;omega
 have g4:s4.h.get (ι u)=some (rnA ι ud V' (κ u)):=by rw[← hs4];exact hs_same
 have f4:∀ i,i≠ι u→s4.h.get i=s3.h.get i:=fun i hi=>by rw[← hs4];exact qe hi
 have k4:RowV 75 s4 (κ u) (Qh ι ud.kids):=k1.keep (fun b hb=>(f4 b (Rp.ki hul hul hb)).trans (r4' b (k1.lt B1 hb) (fun e=>Rp.vk hul hul e hb)))
 have k4a:RowV 75 (s4.alloc (.cells [.ptr (ι j) 0] 75 0)) (κ u) (Qh ι ud.kids):=k4.keep (fun b hb=>zg (by have:=k4.lt B4 hb;omega))
 have lk:(Qh ι ud.kids).length=ud.names.length:=by unfold Qh;rw[List.length_map,n1]
 obtain⟨Ka,Kb,KW,K',s5,s6,d1,d2,d3,d4,q1,q2,q3,q4,q5,q6⟩:=qm3 qt6 (qx B4 _) k4a (fun v hv=>by obtain⟨p,_,rfl⟩:=List.mem_map.mp hv;rfl) (i:=zH nm ud.names) (by rw[lk];exact pl) (by rw[lk];omega) (x:=.ptr (ι j) 0) rfl (q:=s4.nx) qu (fun e=>by have:=k4.lt B4 e;omega)
 have bV':=r1.beq
 have lu4:ι u < s4.nx:=by omega
 have m2:(ι u=s4.nx)=False:=by simp;omega
 have g5:s5.h.get (ι u)=some (rnA ι ud V' (κ u)):=(q6 _ (by show ι u < s4.nx+1;omega)).trans ((zg (by omega)).trans g4)
 have q4':∀ i,i < s4.nx→blk (κ u)≠some i→s6.h.get i=s4.h.get i:=fun i hi hne=>(q4 i (by show i < s4.nx+1;omega) hne).trans (zg (by omega))
 have g6:s6.h.get (ι u)=some (rnA ι ud V' (κ u)):=(q4' _ lu4 (fun e=>Rp.ki hul hul e rfl)).trans g4
 obtain⟨cK1,cK2⟩:=q1.cells1
 repeat (first|with_reducible (refine q9 H ?_;constructor)|simp only[rB,rP,rQ,q8,qa,q7,qb,reduceIte,reduceCtorEq,Nat.reduceAdd,Nat.reduceLT,Nat.reduceEqDiff,UInt8.reduceToNat,pe3,pf3,qV,qfd,qft,q3u _ _ _ _ cK1 cK2,g4,g5,g6,m2,qt0,qa3,d1,d2,d3,d4,bs_n,bV',bK,qrq,q9d,Tryz.results56]|(with_reducible refine qy H (i:=6) (.take 0 (.take 1 (.take 2 (.take 3 (.take 4 (.take 5 (.take 6 (.take 7 (.take 9 (.take 10 (.take 11 (.take 12 (.take 13 (.take 14 (.alt 8 [7] (.alt 15 [7,8,9,10,11,12,13,14] (.alt 16 [1,2,3,4,5,6,7,8,9,10,11,12,13,14,15] (.take 17 (.take 18 (.alt 19 [0,1,2,3,4,5,6,7,8,9,10,11,12,13,14,15,16,17,18] (.done) (.yes)))) (.yes)) (.yes)) (.yes)))))))))))))))) rfl (by kernel_rfl) ?_))
 obtain⟨Rp1,N1⟩:=Rp.node hB hj (nd':={ jd with up:=some u }) (V':=ν j) (K':=κ j) (s':=s1) (by rw[← hs1];exact hs_same)
  (j2.keep (fun b hb=>by rw[← hs1];exact qe (Rp.vi hjl hjl hb))) (j3.keep (fun b hb=>by rw[← hs1];exact qe (Rp.ki hjl hjl hb))) (fun b hb=>Or.inl hb) (fun b hb=>Or.inl hb) (by omega)
  (fun i hi h1 _ _=>by rw[← hs1];exact qe h1) (Rp.kd j jd hj) (fun w hw=>by cases hw;exact hul) (Rp.nn j jd hj)
 rw[Qk,Qk] at Rp1 N1
 have hu1:(R.nodes.set j { jd with up:=some u })[u]?=some ud:=by rw[List.getElem?_set_ne hju];exact hu
 have ln1:(R.nodes.set j { jd with up:=some u }).length=R.nodes.length:=List.length_set
 have x6:s4.nx < s6.nx:=by have:s4.nx+1≤s6.nx:=q3;omega
 have lv:∀ b,blk V'=some b→s1.nx < b∧b < s4.nx:=fun b hb=>⟨by have:s1.nx+1≤b:=r5 b hb;omega,by have:=r1.lt r2 hb;omega⟩
 obtain⟨Rp2,N2⟩:=Rp1.node B1 hu1 (nd':={ ud with names:=Y4 (zH nm ud.names) nm ud.names,kids:=Y4 (zH nm ud.names) j ud.kids }) (V':=V') (K':=K') (s':={ h:=s6.h.set (ι u) (rnA ι ud V' K'),nx:=s6.nx }) hs_same
  (by
   have:=r1.keep (s':={ h:=s6.h.set (ι u) (rnA ι ud V' K'),nx:=s6.nx }) (fun b hb=>by
    obtain⟨l1,l2⟩:=lv b hb
    have e1:(s6.h.set (ι u) (rnA ι ud V' K')).get b=s6.h.get b:=qe (by omega)
    exact e1.trans ((q4' b l2 (fun e=>by have:=k1.lt B1 e;omega)).trans (f4 b (by omega))))
   simpa [Y4] using this)
  (by
   have:=q1.keep (s':={ h:=s6.h.set (ι u) (rnA ι ud V' K'),nx:=s6.nx }) (fun b hb=>qe (by have:s4.nx+1≤b:=q5 b hb;omega))
   simpa [Y4,Qh] using this)
  (fun b hb=>Or.inr (by have:=(lv b hb).1;omega)) (fun b hb=>Or.inr (by have:s4.nx+1≤b:=q5 b hb;omega)) (by show s1.nx≤s6.nx;omega)
  (fun i hi h1 h2 h3=>by
   have e1:(s6.h.set (ι u) (rnA ι ud V' K')).get i=s6.h.get i:=qe h1
   exact e1.trans ((q4' i (by omega) h3).trans ((f4 i h1).trans (r4' i hi h2))))
  (fun q hq=>by
   rw[ln1]
   unfold Y4 at hq
   rcases List.mem_append.mp hq with h|h
   ·exact Rp.kd u ud hu q (List.mem_of_mem_take h)
   ·rcases List.mem_cons.mp h with rfl|h
    ·exact hjl
    ·exact Rp.kd u ud hu q (List.mem_of_mem_drop h))
  (fun w hw=>by rw[ln1];exact Rp.up u ud w hu hw) (by
   have l1:(Y4 (zH nm ud.names) nm ud.names).length=ud.names.length+1:=QX pl
   have l2:(Y4 (zH nm ud.names) j ud.kids).length=ud.kids.length+1:=QX (by omega)
   exact⟨by show (Y4 _ _ _).length=(Y4 _ _ _).length;omega,by show (Y4 _ _ _).length≤900;omega⟩)
 exact hk _ _ _ Rp2 (qn q2 (by show ι u < s6.nx;omega) _) (N1.trans N2)
def Yf (kind mode:Int) (data:List Nat):RN:=⟨0,kind,mode,data,[],[],none⟩
def Wr (R:RM) (nd:RN):RM:={ R with nodes:=R.nodes++[{ nd with id:=R.next+1 }],next:=R.next+1 }
theorem lt_6 {r c:Nat} {F:AV} {z:Int}:ldO (some (rtA r c F z)) 6=some (.raw (.int .i64 z)):=(rfl)
theorem q7u {r c:Nat} {F:AV} {z:Int}:ldO (some (rtA r c F z)) 0=some (.ptr r 0):=(rfl)
theorem q41 {r c:Nat} {F:AV} {z:Int} {b:Bool}:inO (some (rtA r c F z)) b=b:=(rfl)
theorem q5m {s:St} {x r c:Nat} {F:AV} {z z':Int}:stO s x (some (rtA r c F z)) 6 (.raw (.int .i64 z'))=some { s with h:=s.h.set x (rtA r c F z') }:=(rfl)
theorem q0y {s:St} (H:Ok TE Tryz.prog pr3) {x y r c:Nat} {F V K:AV} {z:Int} {ι:Nat→Nat} {nd:RN} (hx:s.h.get x=some (rtA r c F z)) (hy:s.h.get y=some (rnA ι nd V K)) (hxy:x≠y) (hz:0≤z∧z≤1000000000)
  {kr kp:AV→St→Bool} (hk:kr (.ptr y 0) { s with h:=(s.h.set x (rtA r c F (z+1))).set y (rnA ι { nd with id:=z+1 } V K) }=true) :
  (sem Tryz.prog).call 57 [.ptr x 0,.ptr y 0] s kr kp=true:=by
 refine qp H 20 q7n rfl rfl ?_
 have ew:IntKind.i64.wrap (z+1)=z+1:=Go.IntWalk.i64_in _ (by omega)
 have m1:(y=x)=False:=by simp;omega
 repeat (first|with_reducible (refine q9 H ?_;constructor)|simp only[rB,rP,rQ,q8,qa,q7,qb,reduceIte,reduceCtorEq,Nat.reduceAdd,Nat.reduceLT,Nat.reduceEqDiff,UInt8.reduceToNat,pe3,pf3,qV,q7l,q6y,qK,qlf,hx,hy,lt_6,q41,q5m,sr_0,qI,ew,m1,Tryz.results57])
 exact hk
theorem RepR.add {s s':St} {x:Nat} {R:RM} {ι:Nat→Nat} {ν κ:Nat→AV} {φ:AV} (Rp:RepR s x R ι ν κ φ) (hB:qc s) {y:Nat} {nd:RN} (h0:nd.names=[]∧nd.kids=[]∧nd.up=none) (hy:s.nx≤y) (hR:R.next≤999999999)
  (g1:s'.h.get x=some (rtA (ι 0) (ι R.cwd) φ (R.next+1))) (g2:s'.h.get y=some (rnA ι { nd with id:=R.next+1 } nilS nilS)) (fr:∀ i,i < s.nx→i≠x→s'.h.get i=s.h.get i) (hnx:s.nx≤s'.nx) :
  RepR s' x (Wr R nd) (VQ ι R.nodes.length y) (qj4 ν R.nodes.length nilS) (qj4 κ R.nodes.length nilS) φ∧Nxt s s' (Jz x R ι ν κ φ) (Jz x (Wr R nd) (VQ ι R.nodes.length y) (qj4 ν R.nodes.length nilS) (qj4 κ R.nodes.length nilS) φ):=by
 obtain⟨h1,h2,h3⟩:=h0
 have hlen:(Wr R nd).nodes.length=R.nodes.length+1:=by simp[Wr]
 have i1:VQ ι R.nodes.length y R.nodes.length=y:=if_pos rfl
 have i2:∀ {j},j < R.nodes.length→VQ ι R.nodes.length y j=ι j:=fun hj=>if_neg (by omega)
 have v2:∀ {ν:Nat→AV} {j},j < R.nodes.length→qj4 ν R.nodes.length nilS j=ν j:=fun hj=>zU (by omega)
 have hT:∀ j jd,(Wr R nd).nodes[j]?=some jd→(j=R.nodes.length∧jd={ nd with id:=R.next+1 })∨(j < R.nodes.length∧R.nodes[j]?=some jd):=by
  intro j jd h
  unfold Wr at h
  simp only at h
  by_cases hj:j < R.nodes.length
  ·rw[List.getElem?_append_left hj] at h
   exact Or.inr ⟨hj,h⟩
  ·have hj2:=(List.getElem?_eq_some_iff.mp h).1
   have hj3:j=R.nodes.length:=by simp at hj2;omega
   subst hj3
   rw[List.getElem?_append_right (Nat.le_refl _)] at h
   simp at h
   exact Or.inl ⟨rfl,h.symm⟩
 have cg:∀ {l:List Nat},(∀ j∈l,j < R.nodes.length)→Qh (VQ ι R.nodes.length y) l=Qh ι l:=fun h=>List.map_congr_left (fun j hj=>by rw[i2 (h j hj)])
 have nb:∀ {b},blk nilS=some b→False:=fun h=>by cases h
 have ltV:∀ {j b},j < R.nodes.length→blk (ν j)=some b→b < s.nx:=fun {j b} hj hb=>by
  obtain⟨jd,hjd⟩:=Rp.node_of hj
  exact (Rp.nd j jd hjd).2.1.lt hB hb
 have ltK:∀ {j b},j < R.nodes.length→blk (κ j)=some b→b < s.nx:=fun {j b} hj hb=>by
  obtain⟨jd,hjd⟩:=Rp.node_of hj
  exact (Rp.nd j jd hjd).2.2.lt hB hb
 refine⟨⟨?_,?_,?_,?_,?_,?_,?_,?_,?_,?_,?_,?_,?_,?_⟩,hnx,?_,?_⟩
 ·intro j jd h
  rcases hT j jd h with⟨rfl,rfl⟩|⟨hj,hjd⟩
  ·rw[i1,Q2,Q2]
   refine⟨?_,Or.inl ⟨rfl,by simp[h1]⟩,Or.inl ⟨rfl,by simp[h2,Qh]⟩⟩
   rw[g2]
   simp[rnA,h3]
  ·obtain⟨o1,o2,o3⟩:=Rp.nd j jd hjd
   rw[i2 hj,v2 hj,v2 hj,cg (Rp.kd j jd hjd)]
   have e:jd.up.map (VQ ι R.nodes.length y)=jd.up.map ι:=by
    cases hu:jd.up with
    | none=>rfl
    | some w=>simp only[Option.map_some,i2 (Rp.up j jd w hjd hu)]
   refine⟨?_,o2.keep (fun b hb=>fr b (ltV hj hb) (Rp.rx o2 hb (by decide))),o3.keep (fun b hb=>fr b (ltK hj hb) (Rp.rx o3 hb (by decide)))⟩
   have:=(fr (ι j) (Rp.li hB hj) (Rp.ix hj)).trans o1
   rw[this]
   simp only[rnA,e]
 ·rw[g1]
  show _=some (rtA (VQ ι _ y 0) (VQ ι _ y R.cwd) φ (R.next+1))
  rw[i2 Rp.rt,i2 Rp.cw]
 ·have e:(R.fds.map fun o=>upA (o.map (VQ ι R.nodes.length y)))=R.fds.map fun o=>upA (o.map ι):=by
   refine List.map_congr_left fun o ho=>?_
   cases o with
   | none=>rfl
   | some w=>simp only[Option.map_some,i2 (Rp.fo _ ho w rfl)]
  show RowV _ s' φ (R.fds.map fun o=>upA (o.map (VQ ι R.nodes.length y)))
  rw[e]
  exact Rp.fd.keep (fun b hb=>fr b (Rp.fd.lt hB hb) (Rp.rx Rp.fd hb (by decide)))
 ·intro a b ha hb e
  rw[hlen] at ha hb
  by_cases q1:a=R.nodes.length
  ·by_cases q2:b=R.nodes.length
   ·rw[q1,q2]
   ·rw[q1,i1,i2 (by omega)] at e
    have:=Rp.li hB (k:=b) (by omega)
    omega
  ·by_cases q2:b=R.nodes.length
   ·rw[q2,i1,i2 (by omega)] at e
    have:=Rp.li hB (k:=a) (by omega)
    omega
   ·rw[i2 (by omega),i2 (by omega)] at e
    exact Rp.ij _ _ (by omega) (by omega) e
 ·intro a b c ha hb ea eb
  rw[hlen] at ha hb
  by_cases q1:a=R.nodes.length
  ·rw[q1,Q2] at ea;cases ea
  ·by_cases q2:b=R.nodes.length
   ·rw[q2,Q2] at eb;cases eb
   ·rw[zU q1] at ea
    rw[zU q2] at eb
    exact Rp.nj _ _ _ (by omega) (by omega) ea eb
 ·intro a b c ha hb ea eb
  rw[hlen] at ha hb
  by_cases q1:a=R.nodes.length
  ·rw[q1,Q2] at ea;cases ea
  ·by_cases q2:b=R.nodes.length
   ·rw[q2,Q2] at eb;cases eb
   ·rw[zU q1] at ea
    rw[zU q2] at eb
    exact Rp.kj _ _ _ (by omega) (by omega) ea eb
 ·intro a c ha ea
  rw[hlen] at ha
  by_cases q1:a=R.nodes.length
  ·rw[q1,Q2] at ea;cases ea
  ·rw[zU q1] at ea
   exact Rp.fj _ _ (by omega) ea
 ·intro j jd h q hq
  rw[hlen]
  rcases hT j jd h with⟨rfl,rfl⟩|⟨hj,hjd⟩
  ·have hq:q∈nd.kids:=hq
   rw[h2] at hq
   cases hq
  ·have:=Rp.kd j jd hjd q hq;omega
 ·intro j jd w h hw
  rw[hlen]
  rcases hT j jd h with⟨rfl,rfl⟩|⟨hj,hjd⟩
  ·have hw:nd.up=some w:=hw
   rw[h3] at hw
   cases hw
  ·have:=Rp.up j jd w hjd hw;omega
 ·rw[hlen];omega
 ·rw[hlen];have:=Rp.cw;show R.cwd < _;omega
 ·intro o ho w hw
  rw[hlen]
  have:=Rp.fo o ho w hw
  omega
 ·intro j jd h
  rcases hT j jd h with⟨rfl,rfl⟩|⟨hj,hjd⟩
  ·show nd.kids.length=nd.names.length∧nd.names.length≤900
   rw[h1,h2]
   simp
  ·exact Rp.nn j jd hjd
 ·have:=Rp.nx
  exact⟨by show 0≤R.next+1;omega,by show R.next+1≤1000000000;omega⟩
 ·intro i hi hno
  exact fr i hi (fun e=>hno (Or.inl e))
 ·intro i hi
  rcases hi with rfl|⟨j,hj,hj'⟩|hi
  ·exact Or.inl (Or.inl rfl)
  ·rw[hlen] at hj
   by_cases q1:j=R.nodes.length
   ·rw[q1,i1,Q2,Q2] at hj'
    rcases hj' with rfl|h|h
    ·exact Or.inr hy
    ·cases h
    ·cases h
   ·rw[i2 (by omega),zU q1,zU q1] at hj'
    exact Or.inl (Or.inr (Or.inl ⟨j,by omega,hj'⟩))
  ·exact Or.inl (Or.inr (Or.inr hi))
def Vw (R:RM):Stp:=fun i nm=>match R.nodes[i]? with
 | some nd=>ZI nd nm
 | none=>none
theorem qr6 {nd:RN} {nm:List Nat} {j:Nat} (h:ZI nd nm=some j):j∈nd.kids:=by
 unfold ZI at h
 cases hh:qri nm nd.names with
 | false=>rw[hh] at h;cases h
 | true=>rw[hh] at h;exact List.mem_of_getElem? h
theorem Wa {s:St} (H:Ok TE Tryz.prog pr3) {x:Nat} {R:RM} {ι:Nat→Nat} {ν κ:Nat→AV} {φ:AV} (Rp:RepR s x R ι ν κ φ) (hB:qc s) {b:List Nat} (hb:b.length≤1048575)
  {kr kp:AV→St→Bool} (hk:∀ s',Ext s s'→qc s'→kr (upA ((z8 (Vw R) 0 (qq b)).map ι)) s'=true) :
  (sem Tryz.prog).call 55 [.ptr x 0,.str b] s kr kp=true:=by
 refine qp H 34 q7h rfl rfl ?_
 have hx:=Rp.tr
 repeat (first|with_reducible (refine q9 H ?_;constructor)|simp only[rB,rP,rQ,q8,qa,q7,qb,reduceIte,reduceCtorEq,Nat.reduceAdd,Nat.reduceLT,Nat.reduceEqDiff,UInt8.reduceToNat,pe3,pf3,qV,qxx,qjq,hx,q7u,q41])
 refine qjk H hb ?_
 have hV:=SlV.mk (s:=s) (names:=qq b)
 have hE:=Ju (s:=s) (names:=qq b)
 have hB1:=Zi (names:=qq b) hB
 have hpl:=ZN (b:=b)
 generalize (JA 9 (qq b) s).1=V at hV ⊢
 generalize (JA 9 (qq b) s).2=s1 at hV hE hB1 ⊢
 generalize qq b=ps at hV hk hpl
 have R1:=Rp.ext hB hE
 have vl:=hV.len
 have vi:=hV.ids
 repeat (first|with_reducible (refine q9 H ?_;constructor)|simp only[rB,rP,rQ,q8,qa,q7,qb,reduceIte,reduceCtorEq,Nat.reduceAdd,Nat.reduceLT,Nat.reduceEqDiff,UInt8.reduceToNat])
 refine qB H (fun n t s'=>∃ (k:Nat) (cur:Option Nat),n+k=ps.length∧s'=s1∧tg t 5=upA (cur.map ι)∧tg t 6=V∧tg t 7=.raw (.int .i64 (k:Int))∧(∀ c,cur=some c→c < R.nodes.length) ∧
   z8 (Vw R) 0 ps=(match cur with|none=>none|some c=>z8 (Vw R) c (ps.drop k))) (n:=ps.length)
  ⟨0,some 0,rfl,rfl,by simp only[rB,rP,rQ,q8,qa,q7,qb,reduceIte,reduceCtorEq,Nat.reduceAdd,Nat.reduceLT,Nat.reduceEqDiff,UInt8.reduceToNat];rfl,by simp only[rB,rP,rQ,q8,qa,q7,qb,reduceIte,reduceCtorEq,Nat.reduceAdd,Nat.reduceLT,Nat.reduceEqDiff,UInt8.reduceToNat],by simp only[rB,rP,rQ,q8,qa,q7,qb,reduceIte,reduceCtorEq,Nat.reduceAdd,Nat.reduceLT,Nat.reduceEqDiff,UInt8.reduceToNat];rfl,fun c hc=>by cases hc;exact Rp.rt,rfl⟩ ?_
 rintro n t s' ih ⟨k,cur,hn,rfl,t5,t6,t7,hcl,hrun⟩
 cases n with
 | zero =>
  have g0:=QO (a:=k) (b:=ps.length) (by omega)
  have e:z8 (Vw R) 0 ps=cur:=by
   rw[hrun]
   cases cur with
   | none=>rfl
   | some c=>rw[List.drop_eq_nil_of_le (by omega)];rfl
  have hk:=hk s' hE hB1
  rw[e] at hk
  repeat (first|with_reducible (refine q9 H ?_;constructor)|simp only[rB,rP,rQ,q8,qa,q7,qb,reduceIte,reduceCtorEq,Nat.reduceAdd,Nat.reduceLT,Nat.reduceEqDiff,UInt8.reduceToNat,pe3,pf3,t5,t6,t7,vl,vi,zJ,g0,Tryz.results55])
  exact hk
 | succ n =>
  have hlt:k < ps.length:=by omega
  have g0:=Yd hlt
  have ew:=zL (k:=k) (by omega)
  cases cur with
  | none =>
   have hk:=hk s' hE hB1
   rw[hrun] at hk
   have t5:tg t 5=.raw (.pointer none):=t5
   repeat (first|with_reducible (refine q9 H ?_;constructor)|simp only[rB,rP,rQ,q8,qa,q7,qb,reduceIte,reduceCtorEq,Nat.reduceAdd,Nat.reduceLT,Nat.reduceEqDiff,UInt8.reduceToNat,pe3,pf3,t5,t6,t7,vl,vi,zJ,g0,qu1,qgh,qni,ZY,Tryz.results55])
   exact hk
  | some c =>
   have t5:tg t 5=.ptr (ι c) 0:=t5
   have hcn:=hcl c rfl
   obtain⟨cd,hcd⟩:=R1.node_of hcn
   obtain⟨c1,c2,c3⟩:=R1.nd c cd hcd
   obtain⟨n1,n2⟩:=R1.nn c cd hcd
   have hx:ps[k]?=some ps[k]:=List.getElem?_eq_getElem hlt
   simp only at hrun
   rw[List.drop_eq_getElem_cons hlt] at hrun
   generalize ps[k]=p at hx hrun
   obtain⟨id,o,i1,i2,i3⟩:=hV.at hx
   repeat (first|with_reducible (refine q9 H ?_;constructor)|simp only[rB,rP,rQ,q8,qa,q7,qb,reduceIte,reduceCtorEq,Nat.reduceAdd,Nat.reduceLT,Nat.reduceEqDiff,UInt8.reduceToNat,pe3,pf3,t5,t6,t7,vl,vi,zJ,g0,qka,qr8,i1,i2,i3,qD])
   refine qsa H c1 c2 c3 n1 (by omega) ?_
   repeat (first|with_reducible (refine q9 H ?_;constructor)|simp only[rB,rP,rQ,q8,qa,q7,qb,reduceIte,reduceCtorEq,Nat.reduceAdd,Nat.reduceLT,Nat.reduceEqDiff,UInt8.reduceToNat,t5,t6,t7,qI,ew])
   refine ih n _ _ (Nat.lt_succ_self n) ⟨k+1,ZI cd p,by omega,rfl,by simp only[rB,rP,rQ,q8,qa,q7,qb,reduceIte,reduceCtorEq,Nat.reduceAdd,Nat.reduceLT,Nat.reduceEqDiff,UInt8.reduceToNat],by simp only[rB,rP,rQ,q8,qa,q7,qb,reduceIte,reduceCtorEq,Nat.reduceAdd,Nat.reduceLT,Nat.reduceEqDiff,UInt8.reduceToNat,t6],by simp only[rB,rP,rQ,q8,qa,q7,qb,reduceIte,reduceCtorEq,Nat.reduceAdd,Nat.reduceLT,Nat.reduceEqDiff,UInt8.reduceToNat],fun c' hc'=>R1.kd c cd hcd c' (qr6 hc'),?_⟩
   rw[hrun]
   have e:Vw R c p=ZI cd p:=by unfold Vw;rw[hcd]
   simp only[z8,e]
   cases ZI cd p <;> rfl
theorem qij:∀ {b:List Nat} {x:Bool},qvo b x=(x||qf1 [47,0] b)
 | [],x=>by cases x <;> rfl
 | c::l,x=>by
  simp only[qvo]
  rw[qij]
  cases x with
  | true=>simp
  | false =>
   simp only[cond_false,Bool.false_or,qf1,qny]
   cases Nat.beq c 47 <;> cases Nat.beq c 0 <;> simp
theorem nameR_good {b:List Nat}:(qg6 b != 0)=false↔Good b:=by
 unfold qg6 Good qfx
 rw[qij]
 by_cases h0:b=[]
 ·subst h0;simp[eqB]
 ·rw[Qa h0,cond_false]
  have e16:decide ((b.length:Int) > 16)=Nat.blt 16 b.length:=by
   cases h:Nat.blt 16 b.length with
   | true=>rw[decide_eq_true_eq];have:=Nat.blt_eq.mp h;omega
   | false=>rw[decide_eq_false_iff_not];intro hh;have:Nat.blt 16 b.length=true:=Nat.blt_eq.mpr (by omega);rw[this] at h;cases h
  rw[e16]
  cases eqB b [46] <;> cases eqB b [46,46] <;> cases Nat.blt 16 b.length <;> cases qf1 [47,0] b <;> simp[h0]
theorem allR_iff:∀ {l:List (List Nat)},qqz l=true↔∀ p∈l,Good p
 | []=>by simp[qqz]
 | p::l=>by
  simp only[qqz,List.mem_cons,forall_eq_or_imp]
  cases h:qg6 p != 0 with
  | true =>
   have:¬ Good p:=fun g=>by rw[nameR_good.2 g] at h;cases h
   simp[this]
  | false =>
   have:=nameR_good.1 h
   simp[this,allR_iff (l:=l)]
theorem qer {p:List Nat} (hp:p≠[]):Q4 p=Zd p:=by
 have key:Q4 p=true↔Zd p=true:=by
  rw[pathE_iff]
  unfold Q4
  have hpp:qq p=qv p:=zX hp
  constructor
  ·intro h
   cases h1:decide (((qq p).length:Int) > 8) with
   | true=>rw[h1] at h;cases h
   | false =>
    rw[h1,cond_false] at h
    cases h2:decide ((p.length:Int) > 140) with
    | true=>rw[h2] at h;cases h
    | false =>
     rw[h2,cond_false,allR_iff] at h
     simp only[decide_eq_false_iff_not] at h1 h2
     refine⟨qq p,by rw[hpp];exact Yk p,by rw[hpp];exact join_pieces.symm,h,by omega,by omega⟩
  ·rintro⟨ps,h1,h2,h3,h4,h5⟩
   have e:qq p=ps:=by rw[h2];exact qW h3
   have d1:decide ((ps.length:Int) > 8)=false:=by rw[decide_eq_false_iff_not];omega
   have d2:decide ((p.length:Int) > 140)=false:=by rw[decide_eq_false_iff_not];omega
   rw[e,d1,d2]
   exact allR_iff.2 h3
 cases h:Zd p with
 | true=>exact key.2 h
 | false =>
  cases h2:Q4 p with
  | false=>rfl
  | true=>rw[key.1 h2] at h;cases h
def q4s (e:En):Bool:=bif eqB e.1 [] then false else bif Q4 e.1 then ZW e else false
theorem qwx {e:En}:q4s e=YW e:=by
 unfold q4s YW
 by_cases h:e.1=[]
 ·rw[h]
  have:Zd []=false:=by
   cases h2:Zd [] with
   | false=>rfl
   | true =>
    obtain⟨ps,h1,h2,h3,_⟩:=pathE_iff.1 h2
    exact absurd ((ZE h3).1 h2.symm) h1
  rw[this]
  rfl
 ·rw[Qa h,cond_false,qer h]
theorem qc6 {X Y:List Nat}:∀ {p q:List Nat},47∉p→47∉q→(X=[]∨∃ x,X=47::x)→(Y=[]∨∃ y,Y=47::y)→p≠q→QW (p++X) (q++Y)=ltB p q
 | [],[],_,_,_,_,h=>absurd rfl h
 | [],c::q,_,hq,hX,hY,_=>by
  have hc:c≠47:=fun e=>hq (by rw[e];simp)
  rcases hX with rfl|⟨x,rfl⟩
  ·show decide (((0:Nat):Int) < ((c::q++Y).length:Int))=true
   rw[decide_eq_true_eq]
   simp
   omega
  ·have h1:Nat.beq 47 c=false:=QN (Ne.symm hc)
   have h2:Nat.beq 47 47=true:=rfl
   simp only[List.nil_append,List.cons_append,QW,h1,h2,cond_false,cond_true,ltB]
 | a::p,[],hp,_,hX,hY,_=>by
  have ha:a≠47:=fun e=>hp (by rw[e];simp)
  rcases hY with rfl|⟨y,rfl⟩
  ·rfl
  ·have h1:Nat.beq a 47=false:=QN ha
   have h2:Nat.beq 47 47=true:=rfl
   simp only[List.nil_append,List.cons_append,QW,h1,h2,cond_false,cond_true,ltB]
 | a::p,b::q,hp,hq,hX,hY,h=>by
  have ha:a≠47:=fun e=>hp (by rw[e];simp)
  have hb:b≠47:=fun e=>hq (by rw[e];simp)
  simp only[List.cons_append,QW,ltB]
  by_cases e:a=b
  ·subst e
   have h1:Nat.blt a a=false:=by rw[← Bool.not_eq_true,Nat.blt_eq];omega
   rw[Nat.beq_refl,h1,cond_true,cond_false,cond_true]
   exact qc6 (fun hh=>hp (List.mem_cons_of_mem _ hh)) (fun hh=>hq (List.mem_cons_of_mem _ hh)) hX hY (fun e=>h (by rw[e]))
  ·rw[QN e,cond_false,QN ha,cond_false,QN hb,cond_false,cond_false]
   cases h1:Nat.blt a b with
   | true=>rw[cond_true,decide_eq_true_eq];have:=Nat.blt_eq.mp h1;omega
   | false=>rw[cond_false,decide_eq_false_iff_not];intro hh;have:Nat.blt a b=true:=Nat.blt_eq.mpr (by omega);rw[this] at h1;cases h1
theorem qe3 {X Y:List Nat}:∀ {p:List Nat},QW (p++X) (p++Y)=QW X Y
 | []=>rfl
 | a::p=>by
  simp only[List.cons_append,QW,Nat.beq_refl,cond_true]
  exact qe3
theorem qds {p:List Nat} {ps:List (List Nat)}:qo [47] (p::ps)=p++(match ps with | []=>[]|_::_=>47::qo [47] ps):=by
 cases ps with
 | nil=>simp[qo]
 | cons q l=>exact QA (by simp)
theorem qfh:∀ {ps qs:List (List Nat)},(∀ p∈ps,Good p)→(∀ q∈qs,Good q)→(QW (qo [47] ps) (qo [47] qs)=true↔LtP ps qs)
 | [],[],_,_=>by simp[qo,QW,LtP,qpp]
 | [],q::qs,_,hq=>by
  have hne:qo [47] (q::qs)≠[]:=fun e=>by have:=(ZE hq).1 e;cases this
  have:QW (qo [47] []) (qo [47] (q::qs))=true:=by
   show decide (((0:Nat):Int) < ((qo [47] (q::qs)).length:Int))=true
   rw[decide_eq_true_eq]
   have:=List.length_pos_iff.mpr hne
   omega
  simp[this,XE]
 | p::ps,[],hp,_=>by
  have hne:qo [47] (p::ps)≠[]:=fun e=>by have:=(ZE hp).1 e;cases this
  have:QW (qo [47] (p::ps)) (qo [47] [])=false:=by
   cases h:qo [47] (p::ps) with
   | nil=>exact absurd h hne
   | cons a l=>rfl
  simp[this,Zs]
 | p::ps,q::qs,hp,hq=>by
  have gp:=hp p (by simp)
  have gq:=hq q (by simp)
  rw[qds,qds,Jx]
  by_cases e:p=q
  ·subst e
   rw[qe3]
   have ih:=qfh (ps:=ps) (qs:=qs) (fun x hx=>hp x (by simp[hx])) (fun x hx=>hq x (by simp[hx]))
   have hir:ltB p p=false:=QV
   simp only[hir,Bool.false_eq_true,true_and,false_or]
   cases ps with
   | nil =>
    cases qs with
    | nil=>simpa [qo] using ih
    | cons y l =>
     have h1:QW [] (47::qo [47] (y::l))=true:=by
      show decide (((0:Nat):Int) < ((47::qo [47] (y::l)).length:Int))=true
      rw[decide_eq_true_eq];simp
     simp only[h1,XE]
   | cons x r =>
    cases qs with
    | nil =>
     have h1:QW (47::qo [47] (x::r)) []=false:=rfl
     simp[h1,Zs]
    | cons y l =>
     have h1:QW (47::qo [47] (x::r)) (47::qo [47] (y::l))=QW (qo [47] (x::r)) (qo [47] (y::l)):=rfl
     simp only[h1]
     exact ih
  ·rw[qc6 gp.slash gq.slash (by cases ps <;> simp) (by cases qs <;> simp) e]
   simp[e]
theorem qh6 {a b:List Nat} (ha:Zd a=true) (hb:Zd b=true):QW a b=decide (YF a b < 0):=by
 obtain⟨ps,_,e1,g1,_,_⟩:=pathE_iff.1 ha
 obtain⟨qs,_,e2,g2,_,_⟩:=pathE_iff.1 hb
 have h:=qfh g1 g2
 have:YF a b < 0↔LtP ps qs:=by
  unfold YF LtP
  rw[e1,e2,qW g1,qW g2]
 rw[← e1,← e2] at h
 cases hl:QW a b with
 | true=>rw[eq_comm,decide_eq_true_eq];exact this.2 (h.1 hl)
 | false =>
  rw[eq_comm,decide_eq_false_iff_not]
  intro hh
  rw[h.2 (this.1 hh)] at hl
  cases hl
theorem qab {l:List (List Nat)} {nm:List Nat} (h:∀ p∈l,Good p) (hn:Good nm):Qc (qo [47] (l++[nm]))=(qo [47] l,nm):=by
 by_cases hl:l=[]
 ·subst hl
  have e:qo [47] ([]++[nm])=nm:=by simp[qo]
  rw[e]
  unfold Qc
  rw[XD hn.slash]
  simp[qo]
 ·rw[Jh hl]
  have e:=Kd (a:=qo [47] l) (nm:=nm) hn.slash (k:=nm.length) (Nat.le_refl _)
  have hlen:(qo [47] l++47::nm).length=(qo [47] l).length+1+nm.length:=by simp;omega
  unfold Qc
  rw[hlen,e]
  have d:decide (((qo [47] l).length:Int) ≥ 0)=true:=by rw[decide_eq_true_eq];omega
  rw[d,cond_true]
  simp only[Int.toNat_natCast]
  rw[List.take_left',List.drop_append]
  ·simp
  ·rfl
def Srt (l:List (List Nat)):Prop:=l.Pairwise (fun a b=>ltB a b=true)
theorem qnr {nm:List Nat}:∀ {l:List (List Nat)} {i:Nat},Srt l→l[i]?=some nm→zH nm l=i
 | [],i,_,h=>by simp at h
 | p::l,0,_,h=>by
  simp at h
  subst h
  have hir:ltB p p=false:=QV
  simp only[zH,hir,cond_false]
 | p::l,i+1,hs,h=>by
  have hm:nm∈l:=List.mem_of_getElem? (by simpa using h)
  have hlt:=(List.pairwise_cons.mp hs).1 nm hm
  have ih:=qnr (List.pairwise_cons.mp hs).2 (i:=i) (by simpa using h)
  simp only[zH,hlt,cond_true,ih]
theorem qiv {nm:List Nat}:∀ {l:List (List Nat)},Srt l→nm∉l→(∀ p∈l.take (zH nm l),ltB p nm=true)∧∀ p∈l.drop (zH nm l),ltB nm p=true
 | [],_,_=>by simp[zH]
 | p::l,hs,hn=>by
  obtain⟨h1,h2⟩:=List.pairwise_cons.mp hs
  simp only[zH]
  cases hlt:ltB p nm with
  | true =>
   obtain⟨g1,g2⟩:=qiv h2 (fun h=>hn (List.mem_cons_of_mem _ h))
   simp only[cond_true,List.take_succ_cons,List.drop_succ_cons,List.mem_cons,forall_eq_or_imp]
   exact⟨⟨hlt,g1⟩,g2⟩
  | false =>
   have hne:p≠nm:=fun e=>hn (by rw[e];simp)
   have hgt:=Xi hne hlt
   simp only[cond_false,List.take_zero,List.drop_zero,List.mem_cons,forall_eq_or_imp]
   exact⟨by simp,hgt,fun q hq=>J4 hgt (h1 q hq)⟩
theorem qon {nm:List Nat} {l:List (List Nat)} (hs:Srt l) (hn:nm∉l):Srt (Y4 (zH nm l) nm l):=by
 obtain⟨h1,h2⟩:=qiv hs hn
 unfold Y4 Srt
 rw[List.pairwise_append,List.pairwise_cons]
 have ht:Srt (l.take (zH nm l)):=hs.sublist (List.take_sublist _ _)
 have hd:Srt (l.drop (zH nm l)):=hs.sublist (List.drop_sublist _ _)
 refine⟨ht,⟨h2,hd⟩,fun a ha b hb=>?_⟩
 rcases List.mem_cons.mp hb with rfl|hb
 ·exact h1 a ha
 ·exact J4 (h1 a ha) (h2 b hb)
theorem mem_insL {α:Type} {i:Nat} {x y:α} {l:List α}:y∈Y4 i x l↔y=x∨y∈l:=by
 unfold Y4
 have:y∈l↔y∈l.take i∨y∈l.drop i:=by
  rw[← List.mem_append,List.take_append_drop]
 rw[List.mem_append,List.mem_cons,this]
 constructor
 ·rintro (h|h|h)
  ·exact Or.inr (Or.inl h)
  ·exact Or.inl h
  ·exact Or.inr (Or.inr h)
 ·rintro (h|h|h)
  ·exact Or.inr (Or.inl h)
  ·exact Or.inl h
  ·exact Or.inr (Or.inr h)
theorem qwd {α β:Type} {i:Nat} {x:α} {y:β} {l:List α} {r:List β} (h:r.length=l.length):(Y4 i x l).zip (Y4 i y r)=Y4 i (x,y) (l.zip r):=by
 unfold Y4
 rw[List.zip_append (by simp[h]),List.zip_cons_cons,List.zip_eq_zipWith,List.zip_eq_zipWith,List.zip_eq_zipWith,List.take_zipWith,List.drop_zipWith]
theorem zip_at {α β:Type} {l:List α} {r:List β} {a:α} {b:β}:(a,b)∈l.zip r↔∃ i:Nat,l[i]?=some a∧r[i]?=some b:=by
 rw[List.mem_iff_getElem?]
 refine exists_congr fun i=>?_
 rw[List.getElem?_zip_eq_some]
theorem VY {nd:RN} (hs:Srt nd.names) (hl:nd.kids.length=nd.names.length) {nm:List Nat} {j:Nat}:ZI nd nm=some j↔(nm,j)∈nd.names.zip nd.kids:=by
 rw[zip_at]
 unfold ZI qri
 constructor
 ·intro h
  cases hp:nd.names[zH nm nd.names]? with
  | none=>rw[hp] at h;cases h
  | some p =>
   rw[hp] at h
   simp only at h
   cases he:eqB p nm with
   | false=>rw[he] at h;cases h
   | true =>
    rw[he,cond_true] at h
    rw[eqB_eq.1 he] at hp
    exact⟨_,hp,h⟩
 ·rintro⟨i,h1,h2⟩
  rw[qnr hs h1,h1]
  simp only[qS,cond_true]
  exact h2
theorem qfb {nd:RN} (hs:Srt nd.names) (hl:nd.kids.length=nd.names.length) {nm:List Nat}:ZI nd nm=none↔nm∉nd.names:=by
 constructor
 ·intro h hm
  obtain⟨i,hi⟩:=List.mem_iff_getElem?.mp hm
  have hlt:=(List.getElem?_eq_some_iff.mp hi).1
  have hk:nd.kids[i]?=some nd.kids[i]:=List.getElem?_eq_getElem (by omega)
  rw[(VY hs hl).2 (zip_at.2 ⟨i,hi,hk⟩)] at h
  cases h
 ·intro h
  cases hk:ZI nd nm with
  | none=>rfl
  | some j =>
   obtain⟨i,hi,_⟩:=zip_at.1 ((VY hs hl).1 hk)
   exact absurd (List.mem_of_getElem? hi) h
theorem qs1 {nd:RN} (hs:Srt nd.names) (hl:nd.kids.length=nd.names.length) {nm:List Nat} (hn:ZI nd nm=none) {j:Nat} (y:List Nat) :
  ZI { nd with names:=Y4 (zH nm nd.names) nm nd.names,kids:=Y4 (zH nm nd.names) j nd.kids } y=if y=nm then some j else ZI nd y:=by
 have hnm:=(qfb hs hl).1 hn
 have pl:=We (nm:=nm) (l:=nd.names)
 apply Option.ext
 intro z
 rw[VY (nd:={ nd with names:=Y4 (zH nm nd.names) nm nd.names,kids:=Y4 (zH nm nd.names) j nd.kids }) (qon hs hnm) (by
  show (Y4 _ _ _).length=(Y4 _ _ _).length
  rw[QX pl,QX (by omega),hl])]
 show (y,z)∈(Y4 _ nm nd.names).zip (Y4 _ j nd.kids)↔_
 rw[qwd hl,mem_insL]
 by_cases e:y=nm
 ·subst e
  rw[if_pos rfl]
  constructor
  ·rintro (h|h)
   ·cases h;rfl
   ·obtain⟨i,hi,_⟩:=zip_at.1 h
    exact absurd (List.mem_of_getElem? hi) hnm
  ·intro h;cases h;exact Or.inl rfl
 ·rw[if_neg e,VY hs hl]
  constructor
  ·rintro (h|h)
   ·cases h;exact absurd rfl e
   ·exact h
  ·exact Or.inr
theorem qqf {R:RM} {u:Nat} {rd nd:RN} {nm:List Nat} (hu:u < R.nodes.length) (i:Nat):(qq8 (Wr R nd) u rd nm R.nodes.length { nd with id:=R.next+1 }).nodes[i]? =
  if i=R.nodes.length then some { nd with id:=R.next+1,up:=some u } else if i=u then some { rd with names:=Y4 (zH nm rd.names) nm rd.names,kids:=Y4 (zH nm rd.names) R.nodes.length rd.kids } else R.nodes[i]?:=by
 show (((R.nodes++[{ nd with id:=R.next+1 }]).set R.nodes.length { nd with id:=R.next+1,up:=some u }).set u _)[i]?=_
 by_cases h2:i=u
 ·have h1:i≠R.nodes.length:=by omega
  subst h2
  rw[if_neg h1,if_pos rfl]
  exact List.getElem?_set_self (by simp;omega)
 ·rw[List.getElem?_set_ne (fun e=>h2 e.symm)]
  by_cases h1:i=R.nodes.length
  ·subst h1
   rw[if_pos rfl]
   exact List.getElem?_set_self (by simp)
  ·rw[List.getElem?_set_ne (fun e=>h1 e.symm),if_neg h1,if_neg h2]
   by_cases h3:i < R.nodes.length
   ·exact List.getElem?_append_left h3
   ·rw[List.getElem?_eq_none (by simp;omega),List.getElem?_eq_none (by omega)]
structure TrR (R:RM):Prop where
 inc:∀ (k:Nat) (nd:RN),R.nodes[k]?=some nd→∀ j∈nd.kids,k < j∧j < R.nodes.length
 nml:∀ (k:Nat) (nd:RN),R.nodes[k]?=some nd→nd.kids.length=nd.names.length∧nd.names.length≤R.nodes.length∧∀ p∈nd.names,p.length≤16
 dat:∀ (k:Nat) (nd:RN),R.nodes[k]?=some nd→nd.data.length≤1024
 par:∀ (k:Nat) (nd:RN),R.nodes[k]?=some nd→∀ j∈nd.kids,∀ jd,R.nodes[j]?=some jd→jd.up=some k
 nod:∀ (k:Nat) (nd:RN),R.nodes[k]?=some nd→nd.kids.Nodup
 upd:∀ (k:Nat) (nd:RN) (u:Nat),R.nodes[k]?=some nd→nd.up=some u→u < k
 nxt:R.next+1=(R.nodes.length:Int)
 pos:0 < R.nodes.length
theorem TrR.turn {R R':RM} (T:TrR R) {u:Nat} {rd rd':RN} (hu:R.nodes[u]?=some rd) (hu':R'.nodes[u]?=some rd') (hlen:R.nodes.length≤R'.nodes.length) (hnx:R'.next+1=(R'.nodes.length:Int)) (u1:rd'.up=rd.up) (u2:rd'.data.length≤1024)
  (u3:∀ j∈rd'.kids,j∈rd.kids∨(j=R.nodes.length∧j < R'.nodes.length)) (u4:rd'.kids.Nodup) (u5:rd'.kids.length=rd'.names.length∧rd'.names.length≤R'.nodes.length∧∀ p∈rd'.names,p.length≤16)
  (hr:∀ (q:Nat) (qd':RN),q≠u→R'.nodes[q]?=some qd'→(∃ qd,R.nodes[q]?=some qd∧qd'.kids=qd.kids∧qd'.names=qd.names∧qd'.data=qd.data∧(qd'.up=qd.up∨(qd'.up=none∧q∉rd'.kids∧q∈rd.kids)))∨(q=R.nodes.length∧qd'.kids=[]∧qd'.names=[]∧qd'.data.length≤1024∧qd'.up=some u)):TrR R':=by
 have hul:=(List.getElem?_eq_some_iff.mp hu).1
 refine⟨fun k nd h j hj=>?_,fun k nd h=>?_,fun k nd h=>?_,fun k nd h j hj jd hjd=>?_,fun k nd h=>?_,fun k nd w h hw=>?_,hnx,Nat.lt_of_lt_of_le T.pos hlen⟩
 ·by_cases e:k=u
  ·subst e
   rw[hu'] at h
   cases h
   rcases u3 j hj with h1|⟨h1,h2⟩
   ·have:=T.inc _ _ hu j h1
    omega
   ·omega
  ·rcases hr k nd e h with⟨qd,q1,q2,q3,q4,q5⟩|⟨q1,q2,q3,q4,q5⟩
   ·rw[q2] at hj
    have:=T.inc _ _ q1 j hj
    omega
   ·rw[q2] at hj
    cases hj
 ·by_cases e:k=u
  ·subst e
   rw[hu'] at h
   cases h
   exact u5
  ·rcases hr k nd e h with⟨qd,q1,q2,q3,q4,q5⟩|⟨q1,q2,q3,q4,q5⟩
   ·obtain⟨a1,a2,a3⟩:=T.nml _ _ q1
    rw[q2,q3]
    exact⟨a1,by omega,a3⟩
   ·rw[q2,q3]
    exact⟨rfl,Nat.zero_le _,fun p hp=>by cases hp⟩
 ·by_cases e:k=u
  ·subst e
   rw[hu'] at h
   cases h
   exact u2
  ·rcases hr k nd e h with⟨qd,q1,q2,q3,q4,q5⟩|⟨q1,q2,q3,q4,q5⟩
   ·rw[q4]
    exact T.dat _ _ q1
   ·exact q4
 ·-- the parent
  have old:∀ {kd:RN},R.nodes[k]?=some kd→j∈kd.kids→(k=u→j∈rd'.kids)→jd.up=some k:=by
   intro kd hkd hjk hkr
   have hlt:=T.inc _ _ hkd j hjk
   by_cases ej:j=u
   ·subst ej
    rw[hu'] at hjd
    cases hjd
    rw[u1]
    exact T.par _ _ hkd _ hjk _ hu
   ·rcases hr j jd ej hjd with⟨qd,q1,q2,q3,q4,q5⟩|⟨q1,q2,q3,q4,q5⟩
    ·have hp:=T.par _ _ hkd _ hjk _ q1
     rcases q5 with h5|⟨_,h6,h7⟩
     ·rw[h5];exact hp
     ·exfalso
      have:=T.par _ _ hu _ h7 _ q1
      rw[hp] at this
      cases this
      exact h6 (hkr rfl)
    ·omega
  by_cases e:k=u
  ·subst e
   rw[hu'] at h
   cases h
   rcases u3 j hj with h1|⟨h1,h2⟩
   ·exact old hu h1 (fun _=>hj)
   ·rcases hr j jd (by omega) hjd with⟨qd,q1,_⟩|⟨_,_,_,_,q5⟩
    ·have:=(List.getElem?_eq_some_iff.mp q1).1
     omega
    ·exact q5
  ·rcases hr k nd e h with⟨qd,q1,q2,q3,q4,q5⟩|⟨q1,q2,q3,q4,q5⟩
   ·rw[q2] at hj
    exact old q1 hj (fun e'=>absurd e' e)
   ·rw[q2] at hj
    cases hj
 ·by_cases e:k=u
  ·subst e
   rw[hu'] at h
   cases h
   exact u4
  ·rcases hr k nd e h with⟨qd,q1,q2,q3,q4,q5⟩|⟨q1,q2,q3,q4,q5⟩
   ·rw[q2]
    exact T.nod _ _ q1
   ·rw[q2]
    exact List.Pairwise.nil
 ·by_cases e:k=u
  ·subst e
   rw[hu'] at h
   cases h
   rw[u1] at hw
   exact T.upd _ _ _ hu hw
  ·rcases hr k nd e h with⟨qd,q1,q2,q3,q4,q5⟩|⟨q1,q2,q3,q4,q5⟩
   ·rcases q5 with h5|⟨h5,_,_⟩
    ·rw[h5] at hw
     exact T.upd _ _ _ q1 hw
    ·rw[h5] at hw
     cases hw
   ·rw[q5] at hw
    cases hw
    omega
theorem qqe {j i:Nat} {l:List Nat} (h:l.Nodup) (hj:j∉l):(Y4 i j l).Nodup:=by
 unfold Y4
 have e:(l.take i++l.drop i).Nodup:=by rw[List.take_append_drop];exact h
 have hm1:j∉l.take i:=fun h=>hj (List.mem_of_mem_take h)
 have hm2:j∉l.drop i:=fun h=>hj (List.mem_of_mem_drop h)
 rw[List.nodup_append] at e ⊢
 obtain⟨e1,e2,e3⟩:=e
 refine⟨e1,List.nodup_cons.2 ⟨hm2,e2⟩,fun a ha b hb=>?_⟩
 rcases List.mem_cons.1 hb with rfl|hb
 ·intro e;subst e;exact hm1 ha
 ·exact e3 a ha b hb
theorem TrR.new {R:RM} (T:TrR R) {u:Nat} {rd:RN} (hu:R.nodes[u]?=some rd) {nm:List Nat} (hn:nm.length≤16) {a b:Int} {d:List Nat} (hd:d.length≤1024) :
  TrR (qq8 (Wr R (Yf a b d)) u rd nm R.nodes.length { Yf a b d with id:=R.next+1 }):=by
 have hul:=(List.getElem?_eq_some_iff.mp hu).1
 have hP:=qqf (R:=R) (rd:=rd) (nd:=Yf a b d) (nm:=nm) hul
 have hlen:(qq8 (Wr R (Yf a b d)) u rd nm R.nodes.length { Yf a b d with id:=R.next+1 }).nodes.length=R.nodes.length+1:=by
  show (((R.nodes++[_]).set _ _).set _ _).length=_
  simp
 obtain⟨s1,s2,s3⟩:=T.nml u rd hu
 have pl:=We (nm:=nm) (l:=rd.names)
 have hnm:R.nodes.length∉rd.kids:=fun h=>by have:=T.inc u rd hu _ h;omega
 refine T.turn hu (rd':={ rd with names:=Y4 (zH nm rd.names) nm rd.names,kids:=Y4 (zH nm rd.names) R.nodes.length rd.kids }) ((hP u).trans (by rw[if_neg (by omega),if_pos rfl])) (by rw[hlen];omega) ?_ rfl (T.dat u rd hu) (fun j hj=>?_) (qqe (T.nod u rd hu) hnm) ⟨?_,?_,fun p hp=>?_⟩ (fun q qd' hq h=>?_)
 ·rw[hlen]
  have:=T.nxt
  show R.next+1+1=_
  simp
  omega
 ·rw[hlen]
  rcases mem_insL.1 hj with rfl|h
  ·exact Or.inr ⟨rfl,by omega⟩
  ·exact Or.inl h
 ·show (Y4 _ _ _).length=(Y4 _ _ _).length
  rw[QX pl,QX (by omega),s1]
 ·rw[hlen]
  show (Y4 _ _ _).length≤_
  rw[QX pl]
  omega
 ·rcases mem_insL.1 hp with rfl|h
  ·exact hn
  ·exact s3 p h
 ·rw[hP q] at h
  by_cases e:q=R.nodes.length
  ·rw[if_pos e] at h
   cases h
   exact Or.inr ⟨e,rfl,rfl,hd,rfl⟩
  ·rw[if_neg e,if_neg hq] at h
   exact Or.inl ⟨qd',h,rfl,rfl,rfl,Or.inl rfl⟩
theorem TrR.zero:TrR ⟨[⟨0,1,493,[],[],[],none⟩],0,[],0⟩:=by
 have z:∀ (k:Nat) (nd:RN),[(⟨0,1,493,[],[],[],none⟩:RN)][k]?=some nd→nd=⟨0,1,493,[],[],[],none⟩:=by
  intro k nd h
  cases k with
  | zero=>cases h;rfl
  | succ k=>simp at h
 refine⟨fun k nd h=>?_,fun k nd h=>?_,fun k nd h=>?_,fun k nd h=>?_,fun k nd h=>?_,fun k nd u h=>?_,rfl,by decide⟩
 ·cases z k nd h
  intro j hj
  cases hj
 ·cases z k nd h
  exact⟨rfl,Nat.zero_le _,fun p hp=>by cases hp⟩
 ·cases z k nd h
  exact Nat.zero_le _
 ·cases z k nd h
  intro j hj
  cases hj
 ·cases z k nd h
  exact List.Pairwise.nil
 ·cases z k nd h
  intro e
  cases e
theorem qig {nm:List Nat} (h:Good nm):nm.length≤16:=by
 obtain⟨h1,h2⟩:=h
 unfold qfx at h2
 by_cases h:nm.length≤16
 ·exact h
 ·rw[Nat.blt_eq.mpr (by omega:16 < nm.length)] at h2
  cases h2
structure SimR (d:List En) (M:Md) (K:Kids) (pv:Option (List Nat)) (R:RM):Prop where
 inv:Inv d M K pv
 len:R.nodes.length=M.nodes.length
 kid:∀ i nm,Vw R i nm=Z9 M.T i nm
 node:∀ k md rd,M.T k=some md→R.nodes[k]?=some rd→rd.kind=md.kind∧rd.mode=md.mode∧rd.data=md.data
 srt:∀ (k:Nat) (rd:RN),R.nodes[k]?=some rd→Srt rd.names∧rd.kids.length=rd.names.length∧rd.names.length≤d.length
 nxt:R.next=(d.length:Int)
 tr:TrR R
theorem qpn {d:List En} {M:Md} {K:Kids} {pv:Option (List Nat)} {R:RM} (I:SimR d M K pv R) {e:En} (hm:YW e=true) (hpv:okP pv e.1=true) :
  z8 (Vw R) 0 (qq (Qc e.1).1)=qM (e.1.take (Z8 e.1)) K∧∀ u,qM (e.1.take (Z8 e.1)) K=some u→∃ ud rd,M.T u=some ud∧R.nodes[u]?=some rd∧rd.kind=ud.kind ∧
   (ud.kind=1→d.length < 128→ZI rd (Qc e.1).2=none∧rd.names.length < 900∧u≠R.nodes.length ∧
    SimR (d++[e]) (VP M u ud (Yz e.1) ⟨e.2.1,e.2.2.1,e.2.2.2,[],some u,Yz e.1,0⟩) (setK e.1 M.nodes.length K) (some e.1)
     (qq8 (Wr R (Yf e.2.1 e.2.2.1 e.2.2.2)) u rd (Qc e.1).2 R.nodes.length { Yf e.2.1 e.2.2.1 e.2.2.2 with id:=R.next+1 })):=by
 obtain⟨ps,nm,e1,hg,h8,hb,hr⟩:=KM hm
 have gp:∀ x∈ps,Good x:=fun x hx=>hg x (List.mem_append_left _ hx)
 have gn:Good nm:=hg nm (by simp)
 obtain⟨c1,c2⟩:=qbr gp gn
 have c3:=qab gp gn
 rw[← e1] at c1 c2 c3
 have W:=I.inv.wf
 have pe:qq e.1=ps++[nm]:=by rw[e1];exact qW hg
 have hat:z8 (Vw R) 0 ps=M.at ps:=by
  unfold Md.at
  rw[I.inv.root]
  exact JM (fun i x=>I.kid i x)
 rw[c3,c1,c2]
 simp only
 rw[qW gp]
 refine⟨by rw[hat,I.inv.look ps gp],fun u hl=>?_⟩
 have hlu:=hl
 rw[I.inv.look ps gp] at hl
 obtain⟨ud,hu⟩:=W.node hl
 have hul:=Y1 hu
 have hrl:u < R.nodes.length:=by rw[I.len];exact hul
 have hrd:R.nodes[u]?=some R.nodes[u]:=List.getElem?_eq_getElem hrl
 generalize R.nodes[u]=rd at hrd
 obtain⟨k1,k2,k3⟩:=I.node u ud rd hu hrd
 obtain⟨s1,s2,s3⟩:=I.srt u rd hrd
 refine⟨ud,rd,hu,hrd,k1,fun hk hn=>?_⟩
 have before:∀ a∈d,qfy a e:=by
  intro a ha
  obtain⟨p,rfl,hp⟩:=I.inv.last a ha
  have hlt:LtP (qq p) (qq e.1):=of_decide_eq_true (p:=YF p e.1 < 0) hpv
  rcases hp with rfl|hp
  ·exact hlt
  ·exact Qi hp hlt
 have noat:∀ k,M.at (ps++[nm])≠some k:=by
  intro k hk2
  obtain⟨kd,hkd⟩:=W.node hk2
  have ha:EnAt M (ql5 (qo [47] (ps++[nm])) kd) (ps++[nm]):=⟨k,kd,hk2,hkd,rfl⟩
  have:=before _ ((I.inv.mem _).2 ⟨_,by simp,ha⟩)
  unfold qfy at this
  rw[EnAt.parts W ha,pe] at this
  exact Q1 this
 have hlk:qM nm ud.kids=none:=by
  cases h:qM nm ud.kids with
  | none=>rfl
  | some j=>exact absurd (at_snoc.2 ⟨u,ud,hl,hu,h⟩) (noat j)
 have hks:Vw R u nm=ZI rd nm:=by unfold Vw;rw[hrd]
 have hkn:ZI rd nm=none:=by
  rw[← hks,I.kid,Ql hu]
  exact hlk
 have hI:=qa5 I.inv hm hpv (by rw[c1];exact hlu) hu hk hn
 rw[c2] at hI
 have hune:u≠R.nodes.length:=by omega
 refine⟨hkn,by omega,hune,⟨hI,?_,?_,?_,?_,?_,I.tr.new hrd (qig gn) (XR hm).2⟩⟩
 ·show (((R.nodes++[_]).set _ _).set _ _).length=(M.nodes.set _ _++[_]).length
  simp[I.len]
 ·intro i x
  have hT:=qo4 (nw:=⟨e.2.1,e.2.2.1,e.2.2.2,[],some u,nm,0⟩) (nm:=nm) hu i
  have rT:=qqf (R:=R) (rd:=rd) (nd:=Yf e.2.1 e.2.2.1 e.2.2.2) (nm:=nm) hrl i
  unfold Vw Z9
  rw[rT,hT]
  by_cases h1:i=M.nodes.length
  ·rw[if_pos (by rw[I.len];exact h1),if_pos h1]
   rfl
  ·rw[if_neg (by rw[I.len];exact h1),if_neg h1]
   by_cases h2:i=u
   ·rw[if_pos h2,if_pos h2]
    simp only
    rw[qs1 s1 s2 hkn x,Ye,I.len]
    by_cases h3:x=nm
    ·rw[if_pos h3,if_pos h3]
    ·rw[if_neg h3,if_neg h3]
     have:=I.kid u x
     unfold Vw at this
     rw[hrd,Ql hu] at this
     exact this
   ·rw[if_neg h2,if_neg h2]
    have:=I.kid i x
    unfold Vw Z9 at this
    exact this
 ·intro k md rd' hk1 hk2
  rw[qo4 hu] at hk1
  rw[qqf hrl] at hk2
  by_cases h1:k=M.nodes.length
  ·rw[if_pos h1] at hk1
   rw[if_pos (by rw[I.len];exact h1)] at hk2
   cases hk1
   cases hk2
   exact⟨rfl,rfl,rfl⟩
  ·rw[if_neg h1] at hk1
   rw[if_neg (by rw[I.len];exact h1)] at hk2
   by_cases h2:k=u
   ·rw[if_pos h2] at hk1 hk2
    cases hk1
    cases hk2
    exact⟨k1,k2,k3⟩
   ·rw[if_neg h2] at hk1 hk2
    exact I.node k md rd' hk1 hk2
 ·intro k rd' hk2
  rw[qqf hrl] at hk2
  have pl:=We (nm:=nm) (l:=rd.names)
  have hdl:(d++[e]).length=d.length+1:=by simp
  by_cases h1:k=R.nodes.length
  ·rw[if_pos h1] at hk2
   cases hk2
   exact⟨List.Pairwise.nil,rfl,Nat.zero_le _⟩
  ·rw[if_neg h1] at hk2
   by_cases h2:k=u
   ·rw[if_pos h2] at hk2
    cases hk2
    refine⟨qon s1 ((qfb s1 s2).1 hkn),?_,?_⟩
    ·show (Y4 _ _ _).length=(Y4 _ _ _).length
     rw[QX pl,QX (by omega),s2]
    ·show (Y4 _ _ _).length≤_
     rw[QX pl]
     omega
   ·rw[if_neg h2] at hk2
    obtain⟨a,b,c⟩:=I.srt k rd' hk2
    exact⟨a,b,by omega⟩
 ·show R.next+1=_
  rw[I.nxt,List.length_append]
  simp
def RZ:RM:=⟨[⟨0,1,493,[],[],[],none⟩],0,[],0⟩
theorem q1x:SimR [] MZ [([],0)] none RZ:=by
 refine⟨qlv,rfl,fun i nm=>?_,fun k md rd h1 h2=>?_,fun k rd h=>?_,rfl,TrR.zero⟩
 ·cases i with
  | zero=>rfl
  | succ i=>rfl
 ·cases k with
  | zero=>cases h1;cases h2;exact⟨rfl,rfl,rfl⟩
  | succ k=>simp[RZ] at h2
 ·cases k with
  | zero=>cases h;exact⟨List.Pairwise.nil,rfl,Nat.le_refl _⟩
  | succ k=>simp[RZ] at h
def qjx:List Nat→Bool
 | []=>true
 | c::l=>bif Nat.beq c 0 then false else qjx l
theorem qea:∀ {b:List Nat} {k:Nat},qjx b=!(match qJ b 0 k with|some _=>true|none=>false)
 | [],_=>rfl
 | c::l,k=>by
  simp only[qjx,qJ]
  cases Nat.beq c 0 with
  | true=>rfl
  | false=>exact qea
def q4u (b:List Nat):Bool:=bif eqB b [] then false else bif decide ((b.length:Int) > 64) then false else qjx b
theorem qu4 {b:List Nat}:q4u b=J5 b:=by
 unfold q4u J5 qy1
 by_cases h0:b=[]
 ·subst h0;rfl
 ·rw[Qa h0,cond_false]
  have h1:Nat.ble 1 b.length=true:=Nat.ble_eq.mpr (List.length_pos_iff.mpr h0)
  rw[h1,Bool.true_and,qea (k:=0)]
  by_cases h2:b.length≤64
  ·have d:decide ((b.length:Int) > 64)=false:=by rw[decide_eq_false_iff_not];omega
   rw[d,Nat.ble_eq.mpr h2]
   cases qJ b 0 0 <;> rfl
  ·have d:decide ((b.length:Int) > 64)=true:=by rw[decide_eq_true_eq];omega
   have d2:Nat.ble b.length 64=false:=by rw[← Bool.not_eq_true,Nat.ble_eq];exact h2
   rw[d,d2]
   rfl
theorem qzo {s:St} (H:Ok TE Tryz.prog pr3) {b:List Nat} {kr kp:AV→St→Bool} (hk:kr (.raw (.bool (q4u b))) s=true):(sem Tryz.prog).call 72 [.str b] s kr kp=true:=by
 refine qp H 21 q5n rfl rfl ?_
 unfold q4u at hk
 cases h0:eqB b [] with
 | true =>
  rw[h0,cond_true] at hk
  repeat (first|with_reducible (refine q9 H ?_;constructor)|simp only[rB,rP,rQ,q8,qa,q7,qb,reduceIte,reduceCtorEq,Nat.reduceAdd,Nat.reduceLT,Nat.reduceEqDiff,UInt8.reduceToNat,pe3,pf3,zz,h0,Tryz.results72])
  exact hk
 | false =>
 rw[h0,cond_false] at hk
 cases h1:decide ((b.length:Int) > 64) with
 | true =>
  rw[h1,cond_true] at hk
  repeat (first|with_reducible (refine q9 H ?_;constructor)|simp only[rB,rP,rQ,q8,qa,q7,qb,reduceIte,reduceCtorEq,Nat.reduceAdd,Nat.reduceLT,Nat.reduceEqDiff,UInt8.reduceToNat,pe3,pf3,zz,h0,ql,zD,h1,Tryz.results72])
  exact hk
 | false =>
 rw[h1,cond_false] at hk
 have h64:b.length≤64:=by simp at h1;omega
 repeat (first|with_reducible (refine q9 H ?_;constructor)|simp only[rB,rP,rQ,q8,qa,q7,qb,reduceIte,reduceCtorEq,Nat.reduceAdd,Nat.reduceLT,Nat.reduceEqDiff,UInt8.reduceToNat,pe3,pf3,zz,h0,ql,zD,h1])
 refine qB H (fun n t s'=>∃ k:Nat,n+k=b.length∧s'=s∧tg t 0=.str b∧tg t 3=.raw (.int .i64 (k:Int))∧qjx b=qjx (b.drop k)) (n:=b.length)
  ⟨0,rfl,rfl,by simp only[rB,rP,rQ,q8,qa,q7,qb,reduceIte,reduceCtorEq,Nat.reduceAdd,Nat.reduceLT,Nat.reduceEqDiff,UInt8.reduceToNat],by simp only[rB,rP,rQ,q8,qa,q7,qb,reduceIte,reduceCtorEq,Nat.reduceAdd,Nat.reduceLT,Nat.reduceEqDiff,UInt8.reduceToNat];rfl,rfl⟩ ?_
 rintro n t s' ih ⟨k,hn,rfl,t0,t3,hrun⟩
 cases n with
 | zero =>
  have g0:=QO (a:=k) (b:=b.length) (by omega)
  rw[List.drop_eq_nil_of_le (by omega)] at hrun
  rw[hrun] at hk
  repeat (first|with_reducible (refine q9 H ?_;constructor)|simp only[rB,rP,rQ,q8,qa,q7,qb,reduceIte,reduceCtorEq,Nat.reduceAdd,Nat.reduceLT,Nat.reduceEqDiff,UInt8.reduceToNat,pe3,pf3,t0,t3,ql,zJ,g0,Tryz.results72])
  exact hk
 | succ n =>
  have hlt:k < b.length:=by omega
  have g0:=Yd hlt
  have ew:=zL (k:=k) (by omega)
  rw[List.drop_eq_getElem_cons hlt] at hrun
  have hx:b[k]?=some b[k]:=List.getElem?_eq_getElem hlt
  generalize b[k]=x at hx hrun
  have ix:=qq7 hx
  have gz:((x:Int)==0)=Nat.beq x 0:=Wt
  simp only[qjx] at hrun
  cases hz:Nat.beq x 0 with
  | true =>
   rw[hz,cond_true] at hrun
   rw[hrun] at hk
   repeat (first|with_reducible (refine q9 H ?_;constructor)|simp only[rB,rP,rQ,q8,qa,q7,qb,reduceIte,reduceCtorEq,Nat.reduceAdd,Nat.reduceLT,Nat.reduceEqDiff,UInt8.reduceToNat,pe3,pf3,t0,t3,ql,zJ,g0,ix,qr,gz,hz,Tryz.results72])
   exact hk
  | false =>
   rw[hz,cond_false] at hrun
   repeat (first|with_reducible (refine q9 H ?_;constructor)|simp only[rB,rP,rQ,q8,qa,q7,qb,reduceIte,reduceCtorEq,Nat.reduceAdd,Nat.reduceLT,Nat.reduceEqDiff,UInt8.reduceToNat,pe3,pf3,t0,t3,ql,zJ,g0,ix,qr,gz,hz,qI,ew])
   exact ih n _ _ (Nat.lt_succ_self n) ⟨k+1,by omega,rfl,by simp only[rB,rP,rQ,q8,qa,q7,qb,reduceIte,reduceCtorEq,Nat.reduceAdd,Nat.reduceLT,Nat.reduceEqDiff,UInt8.reduceToNat,t0],by simp only[rB,rP,rQ,q8,qa,q7,qb,reduceIte,reduceCtorEq,Nat.reduceAdd,Nat.reduceLT,Nat.reduceEqDiff,UInt8.reduceToNat],hrun⟩
theorem q2n {s:St} (H:Ok TE Tryz.prog pr3) (hB:qc s) {e:En} (hp:e.1.length≤1048575) {kr kp:AV→St→Bool} (hk:∀ s',Ext s s'→qc s'→kr (.raw (.bool (q4s e))) s'=true) :
  (sem Tryz.prog).call 54 [agE e] s kr kp=true:=by
 refine qp H 55 q7x rfl rfl ?_
 obtain⟨p,kd,md,d⟩:=e
 simp only at hp
 have hk:=hk (s.alloc (.cells [.str p,.raw (.int .i64 kd),.raw (.int .i64 md),.str d] 34 0)) (Ext.alloc s _) (qx hB _)
 unfold q4s ZW at hk
 simp only at hk
 unfold agE
 cases h1:eqB p [] with
 | true =>
  rw[h1] at hk
  repeat (first|with_reducible (refine q9 H ?_;constructor)|simp only[rB,rP,rQ,q8,qa,q7,qb,reduceIte,reduceCtorEq,Nat.reduceAdd,Nat.reduceLT,Nat.reduceEqDiff,UInt8.reduceToNat,pe3,pf3,qf,qg,qD,zz,h1,Tryz.results54])
  exact hk
 | false =>
 rw[h1,cond_false] at hk
 cases h2:Q4 p with
 | false =>
  rw[h2] at hk
  repeat (first|with_reducible (refine q9 H ?_;constructor)|simp only[rB,rP,rQ,q8,qa,q7,qb,reduceIte,reduceCtorEq,Nat.reduceAdd,Nat.reduceLT,Nat.reduceEqDiff,UInt8.reduceToNat,pe3,pf3,qf,qg,qD,zz,h1]|(refine Vc H hp ?_;rw[h2]))
  exact hk
 | true =>
 rw[h2,cond_true] at hk
 repeat (first|with_reducible (refine q9 H ?_;constructor)|simp only[rB,rP,rQ,q8,qa,q7,qb,reduceIte,reduceCtorEq,Nat.reduceAdd,Nat.reduceLT,Nat.reduceEqDiff,UInt8.reduceToNat,pe3,pf3,qf,qg,qD,zz,h1])
 refine Vc H hp ?_
 rw[h2]
 obtain⟨m1,hm1⟩:∃ b,decide (md ≥ 0)=b:=⟨_,rfl⟩
 obtain⟨m2,hm2⟩:∃ b,decide (md≤511)=b:=⟨_,rfl⟩
 obtain⟨m3,hm3⟩:∃ b,(md==511)=b:=⟨_,rfl⟩
 rw[hm1,hm2,hm3,← qu4] at hk
 by_cases k1:kd=1
 ·subst k1
  have e1:((1:Int)==1)=true:=rfl
  rw[e1,cond_true] at hk
  cases m1 <;> cases m2
  all_goals
   repeat (first|with_reducible (refine q9 H ?_;constructor)|simp only[rB,rP,rQ,q8,qa,q7,qb,reduceIte,reduceCtorEq,Nat.reduceAdd,Nat.reduceLT,Nat.reduceEqDiff,UInt8.reduceToNat,qg,qh,qi,qj,qD,qK,zz,qr,e1,Y3,YL,hm1,hm2,Bool.not_true,Tryz.results54])
   exact hk
 have e1:(kd==1)=false:=by rw[beq_eq_false_iff_ne];exact k1
 rw[e1,cond_false] at hk
 by_cases k2:kd=2
 ·subst k2
  have e2:((2:Int)==2)=true:=rfl
  rw[e2,cond_true] at hk
  cases m1 <;> cases m2
  all_goals
   repeat (first|with_reducible (refine q9 H ?_;constructor)|simp only[rB,rP,rQ,q8,qa,q7,qb,reduceIte,reduceCtorEq,Nat.reduceAdd,Nat.reduceLT,Nat.reduceEqDiff,UInt8.reduceToNat,qg,qh,qi,qj,qD,qK,ql,zz,qr,e1,e2,Y3,YL,hm1,hm2,Bool.not_true,Tryz.results54])
   exact hk
 have e2:(kd==2)=false:=by rw[beq_eq_false_iff_ne];exact k2
 rw[e2,cond_false] at hk
 by_cases k3:kd=3
 ·subst k3
  have e3:((3:Int)==3)=true:=rfl
  rw[e3,cond_true] at hk
  cases m3 with
  | false =>
   repeat (first|with_reducible (refine q9 H ?_;constructor)|simp only[rB,rP,rQ,q8,qa,q7,qb,reduceIte,reduceCtorEq,Nat.reduceAdd,Nat.reduceLT,Nat.reduceEqDiff,UInt8.reduceToNat,qg,qh,qi,qj,qD,qK,zz,qr,e1,e2,e3,hm3,Bool.not_true,Tryz.results54])
   exact hk
  | true =>
   repeat (first|with_reducible (refine q9 H ?_;constructor)|simp only[rB,rP,rQ,q8,qa,q7,qb,reduceIte,reduceCtorEq,Nat.reduceAdd,Nat.reduceLT,Nat.reduceEqDiff,UInt8.reduceToNat,pe3,pf3,qg,qh,qi,qj,qD,qK,zz,qr,e1,e2,e3,hm3,Bool.not_true,Tryz.results54]|(with_reducible refine qzo H ?_))
   exact hk
 have e3:(kd==3)=false:=by rw[beq_eq_false_iff_ne];exact k3
 rw[e3,cond_false] at hk
 repeat (first|with_reducible (refine q9 H ?_;constructor)|simp only[rB,rP,rQ,q8,qa,q7,qb,reduceIte,reduceCtorEq,Nat.reduceAdd,Nat.reduceLT,Nat.reduceEqDiff,UInt8.reduceToNat,qg,qh,qi,qj,qD,qK,zz,qr,e1,e2,e3,Bool.not_true,Tryz.results54])
 exact hk
theorem q5l:Qb TE 107 [(1,.raw (.int .i64 1)),(2,.raw (.int .i64 493))]=some (.agg [.raw (.int .i64 0),.raw (.int .i64 1),.raw (.int .i64 493),.str [],nilS,nilS,.raw (.pointer none)]):=by kernel_rfl
theorem q19 {k m:Int} {d:List Nat}:Qb TE 107 [(1,.raw (.int .i64 k)),(2,.raw (.int .i64 m)),(3,.str d)]=some (.agg [.raw (.int .i64 0),.raw (.int .i64 k),.raw (.int .i64 m),.str d,nilS,nilS,.raw (.pointer none)]):=by kernel_rfl
theorem q8p {r:Nat}:Qb TE 86 [(0,.ptr r 0),(1,.ptr r 0),(3,.raw (.int .i64 1024)),(4,.raw (.int .i64 512)),(5,.raw (.int .i64 128))]=some (.agg [.ptr r 0,.ptr r 0,nilS,.raw (.int .i64 1024),.raw (.int .i64 512),.raw (.int .i64 128),.raw (.int .i64 0),.raw (.bool false)]):=by kernel_rfl
theorem q0q {s:St} (H:Ok TE Tryz.prog pr3) (hB:qc s) {kr kp:AV→St→Bool} (hk:∀ s',Ext s s'→qc s'→s'.nx=s.nx+2→RepR s' (s.nx+1) RZ (fun _=>s.nx) (fun _=>nilS) (fun _=>nilS) nilS→kr (.ptr (s.nx+1) 0) s'=true) :
  (sem Tryz.prog).call 53 [] s kr kp=true:=by
 refine qp H 8 q8g rfl rfl ?_
 repeat (first|with_reducible (refine q9 H ?_;constructor)|simp only[rB,rP,rQ,q8,qa,q7,qb,reduceIte,reduceCtorEq,Nat.reduceAdd,Nat.reduceLT,Nat.reduceEqDiff,UInt8.reduceToNat,pe3,pf3,q5l,q8p,qf,Tryz.results53])
 have zero:∀ {k:Nat} {nd:RN},RZ.nodes[k]?=some nd→k=0∧nd=⟨0,1,493,[],[],[],none⟩:=by
  intro k nd h
  cases k with
  | zero=>cases h;exact⟨rfl,rfl⟩
  | succ k=>simp[RZ] at h
 refine hk _ ((Ext.alloc s _).trans (Ext.alloc _ _)) (qx (qx hB _) _) rfl ⟨?_,?_,Or.inl ⟨rfl,rfl⟩,?_,?_,?_,?_,?_,?_,by decide,by decide,?_,?_,by decide⟩
 ·intro k nd h
  obtain⟨rfl,rfl⟩:=zero h
  exact⟨(zg (by show s.nx≠s.nx+1;omega)).trans qu,Or.inl ⟨rfl,rfl⟩,Or.inl ⟨rfl,rfl⟩⟩
 ·exact qu
 ·intro j k hj hk _
  have hj:j < 1:=hj
  have hk:k < 1:=hk
  omega
 ·intro j k b _ _ h;cases h
 ·intro j k b _ _ h;cases h
 ·intro k b _ h;cases h
 ·intro k nd h q hq
  obtain⟨rfl,rfl⟩:=zero h
  cases hq
 ·intro k nd u h hu
  obtain⟨rfl,rfl⟩:=zero h
  cases hu
 ·intro o ho
  cases ho
 ·intro k nd h
  obtain⟨rfl,rfl⟩:=zero h
  exact⟨rfl,by decide⟩
theorem qh8:∀ {l:List AV} {o n:Nat} {r:List AV} {j:Nat} {v:AV},ZF o n l=some r→r[j]?=some v→l[o+j]?=some v
 | l,o,n,r,0,v,h,hv=>by
  cases r with
  | nil=>cases hv
  | cons x t =>
   cases hv
   exact qgz h rfl
 | l,o,n,r,j+1,v,h,hv=>by
  have key:∀ {l:List AV} {o n:Nat} {r:List AV},ZF o n l=some r→∀ j,(hj:j < r.length)→l[o+j]?=r[j]?:=by
   intro l
   induction l with
   | nil =>
    intro o n r h j hj
    cases o with
    | zero=>cases n with
     | zero=>cases h;simp at hj
     | succ n=>cases h
    | succ o=>cases h
   | cons y l ih =>
    intro o n r h j hj
    cases o with
    | zero =>
     have e:r=(y::l).take n:=by
      have hn:n≤(y::l).length:=by
       by_cases hn:n≤(y::l).length
       ·exact hn
       ·exfalso
        have:∀ (m:Nat) (q:List AV),q.length < m→ZJ m q=none:=by
         intro m
         induction m with
         | zero=>intro q hq;omega
         | succ m ihm =>
          intro q hq
          cases q with
          | nil=>rfl
          | cons z q=>simp only[ZJ,ihm q (by simp at hq;omega)]
        have h':ZJ n (y::l)=some r:=h
        rw[this n _ (by omega)] at h'
        cases h'
      rw[ZC hn] at h
      cases h
      rfl
     rw[e] at hj ⊢
     rw[List.getElem?_take,Nat.zero_add]
     simp at hj
     rw[if_pos (by omega)]
    | succ o =>
     have h2:ZF o n l=some r:=by simpa [ZF,ZB] using h
     have:=ih h2 j hj
     rw[← this,show o+1+j=(o+j)+1 from by omega,List.getElem?_cons_succ]
  have hj:=(List.getElem?_eq_some_iff.mp hv).1
  rw[key h (j+1) hj]
  exact hv
theorem q7q {x o:Nat}:qk TE 34 (.ptr x o) 0=some (.ptr x (o+0)):=by kernel_rfl
theorem fe_1 {x o:Nat}:qk TE 34 (.ptr x o) 1=some (.ptr x (o+1)):=by kernel_rfl
theorem fe_2 {x o:Nat}:qk TE 34 (.ptr x o) 2=some (.ptr x (o+2)):=by kernel_rfl
theorem fe_3 {x o:Nat}:qk TE 34 (.ptr x o) 3=some (.ptr x (o+3)):=by kernel_rfl
theorem EsV.fld {s:St} {V:AV} {es:List En} (h:EsV s V es) {k:Nat} {e:En} (hk:es[k]?=some e):∃ id o ob,qL TE 29 V (.raw (.int .i64 (k:Int)))=some (.ptr id o)∧s.h.get id=some ob∧(∀ s',s'.h.get id=some ob→Q3 TE s' 34 (.ptr id o)=some (agE e))∧(∀ b,inO (some ob) b=b) ∧
  ldO (some ob) (o+0)=some (.str e.1)∧ldO (some ob) (o+1)=some (.raw (.int .i64 e.2.1))∧ldO (some ob) (o+2)=some (.raw (.int .i64 e.2.2.1))∧ldO (some ob) (o+3)=some (.str e.2.2.2)∧WA ob ob=true:=by
 rcases h with⟨⟨a,c,rfl⟩,rfl⟩|⟨id,off,ci,l,z,rfl,rfl⟩|⟨id,off,ci,cap,ex,cs,ob,rfl,hg,ho,hbq,hc⟩
 ·simp at hk
 ·simp at hk
 ·have hlt:=(List.getElem?_eq_some_iff.mp hk).1
  have h1:=hc k e hk
  have a0:=qh8 (j:=0) h1 rfl
  have a1:=qh8 (j:=1) h1 rfl
  have a2:=qh8 (j:=2) h1 rfl
  have a3:=qh8 (j:=3) h1 rfl
  rcases ho with⟨fz,rfl⟩|rfl
  ·exact⟨id,off+k * 4,_,q2r hlt,hg,fun s' hs'=>qlx qe0 hs' h1,fun b=>rfl,a0,a1,a2,a3,by simp[WA,hbq]⟩
  ·exact⟨id,off+k * 4,_,q2r hlt,hg,fun s' hs'=>qgw qe0 hs' h1,fun b=>rfl,a0,a1,a2,a3,by simp[WA,hbq]⟩
theorem qt7 {s:St} (H:Ok TE Tryz.prog pr3) {x:Nat} {R:RM} {ι:Nat→Nat} {ν κ:Nat→AV} {φ:AV} (Rp:RepR s x R ι ν κ φ) (hB:qc s) {u j iu ij:Nat} (eu:ι u=iu) (ej:ι j=ij) {ud jd:RN} (hu:R.nodes[u]?=some ud) (hj:R.nodes[j]?=some jd) (hju:j≠u) {nm:List Nat} (hnew:ZI ud nm=none)
  (hroom:ud.names.length < 900) {kr kp:AV→St→Bool} (hk:∀ s' ν' κ',RepR s' x (qq8 R u ud nm j jd) ι ν' κ' φ→qc s'→Nxt s s' (Jz x R ι ν κ φ) (Jz x (qq8 R u ud nm j jd) ι ν' κ' φ)→kr (.tuple []) s'=true) :
  (sem Tryz.prog).call 56 [.ptr iu 0,.str nm,.ptr ij 0] s kr kp=true:=by
 subst eu
 subst ej
 exact q7a H Rp hB hu hj hju hnew hroom hk
theorem qtd {s:St} (H:Ok TE Tryz.prog pr3) (hB:qc s) {x y r c:Nat} {F V K:AV} {z:Int} {ι:Nat→Nat} {nd:RN} (hx:s.h.get x=some (rtA r c F z)) (hy:s.h.get y=some (rnA ι nd V K)) (hxy:x≠y) (hz:0≤z∧z≤1000000000)
  {kr kp:AV→St→Bool} (hk:∀ s',s'.nx=s.nx→qc s'→s'.h.get x=some (rtA r c F (z+1))→s'.h.get y=some (rnA ι { nd with id:=z+1 } V K)→(∀ i,i≠x→i≠y→s'.h.get i=s.h.get i)→kr (.ptr y 0) s'=true) :
  (sem Tryz.prog).call 57 [.ptr x 0,.ptr y 0] s kr kp=true:=by
 have b1:qc { s with h:=s.h.set x (rtA r c F (z+1)) }:=qn hB (hB _ _ hx) _
 have b2:qc { s with h:=(s.h.set x (rtA r c F (z+1))).set y (rnA ι { nd with id:=z+1 } V K) }:=qn b1 (hB _ _ hy) _
 exact q0y H hx hy hxy hz (hk _ rfl b2 ((qe hxy).trans hs_same) hs_same (fun i h1 h2=>(qe h2).trans (qe h1)))
theorem qxi {s:St} (H:Ok TE Tryz.prog pr3) (hB:qc s) {V:AV} {es:List En} (hV:EsV s V es) (hp:∀ e∈es,e.1.length≤1048575) (hn0:es.length < 1000000000) {kr kp:AV→St→Bool}
  (hk:∀ s' M1 K pv R x ι ν κ φ,ofT es=some { M1 with many:=(es.length:Int) }→SimR es M1 K pv R→RepR s' x R ι ν κ φ→(∀ i,Jz x R ι ν κ φ i→s.nx≤i)→Ext s s'→qc s'→kr (.tuple [.ptr x 0,.raw (.bool true)]) s'=true)
  (hf:∀ s',ofT es=none→Ext s s'→qc s'→kr (.tuple [.raw (.pointer none),.raw (.bool false)]) s'=true) :
  (sem Tryz.prog).call 30 [V] s kr kp=true:=by
 refine qp H 88 q7s rfl rfl ?_
 have vl:=hV.len
 have vi:=hV.ids
 repeat (first|with_reducible (refine q9 H ?_;constructor)|simp only[rB,rP,rQ,q8,qa,q7,qb,reduceIte,reduceCtorEq,Nat.reduceAdd,Nat.reduceLT,Nat.reduceEqDiff,UInt8.reduceToNat,pe3,pf3])
 refine q0q H hB (fun s1 hE1 hB1 hnx R1=>?_)
 unfold ofT at hk hf
 by_cases hl:es.length > 128
 ·have g0:decide ((es.length:Int) > 128)=true:=by rw[decide_eq_true_eq];omega
  repeat (first|with_reducible (refine q9 H ?_;constructor)|simp only[rB,rP,rQ,q8,qa,q7,qb,reduceIte,reduceCtorEq,Nat.reduceAdd,Nat.reduceLT,Nat.reduceEqDiff,UInt8.reduceToNat,pe3,pf3,vl,vi,zD,g0,Tryz.results30])
  exact hf s1 (by rw[g0];rfl) hE1 hB1
 have g0:decide ((es.length:Int) > 128)=false:=by rw[decide_eq_false_iff_not];omega
 rw[g0] at hk hf
 simp only[cond_false] at hk hf
 repeat (first|with_reducible (refine q9 H ?_;constructor)|simp only[rB,rP,rQ,q8,qa,q7,qb,reduceIte,reduceCtorEq,Nat.reduceAdd,Nat.reduceLT,Nat.reduceEqDiff,UInt8.reduceToNat,pe3,pf3,vl,vi,zD,g0])
 have own0:∀ i,Jz (s.nx+1) RZ (fun _=>s.nx) (fun _=>nilS) (fun _=>nilS) nilS i→s.nx≤i:=by
  intro i hi
  rcases hi with rfl|⟨k,hk,rfl|h|h⟩|h
  ·exact Nat.le_succ _
  ·exact Nat.le_refl _
  ·cases h
  ·cases h
  ·cases h
 refine qB H (fun n t s'=>∃ (k:Nat) (M:Md) (K:List (List Nat × Nat)) (pv:Option (List Nat)) (R:RM) (ι:Nat→Nat) (ν κ:Nat→AV) (φ:AV),n+k=es.length∧tg t 0=V∧tg t 4=.ptr (s.nx+1) 0∧tg t 5=.raw (.int .i64 (k:Int)) ∧
  Ext s s'∧qc s'∧RepR s' (s.nx+1) R ι ν κ φ∧(∀ i,Jz (s.nx+1) R ι ν κ φ i→s.nx≤i)∧SimR (es.take k) M K pv R∧(k=0∧pv=none∨∃ e,0 < k∧es[k - 1]?=some e∧pv=some e.1∧YW e=true) ∧
  Zc es MZ [([],0)] none=Zc (es.drop k) M K pv) (n:=es.length)
  ⟨0,MZ,[([],0)],none,RZ,fun _=>s.nx,fun _=>nilS,fun _=>nilS,nilS,rfl,by simp only[rB,rP,rQ,q8,qa,q7,qb,reduceIte,reduceCtorEq,Nat.reduceAdd,Nat.reduceLT,Nat.reduceEqDiff,UInt8.reduceToNat],by simp only[rB,rP,rQ,q8,qa,q7,qb,reduceIte,reduceCtorEq,Nat.reduceAdd,Nat.reduceLT,Nat.reduceEqDiff,UInt8.reduceToNat],by simp only[rB,rP,rQ,q8,qa,q7,qb,reduceIte,reduceCtorEq,Nat.reduceAdd,Nat.reduceLT,Nat.reduceEqDiff,UInt8.reduceToNat];rfl,hE1,hB1,R1,own0,q1x,Or.inl ⟨rfl,rfl⟩,rfl⟩ ?_
 rintro n t s' ih ⟨k,M,K,pv,R,ι,ν,κ,φ,hnk,t0,t4,t5,hE,hB',Rp,hown,SR,hpv,hrun⟩
 have hV':=hV.ext hB hE
 cases n with
 | zero =>
  have g1:=QO (a:=k) (b:=es.length) (by omega)
  rw[List.drop_eq_nil_of_le (by omega)] at hrun
  rw[List.take_of_length_le (by omega)] at SR
  simp only[Zc] at hrun
  repeat (first|with_reducible (refine q9 H ?_;constructor)|simp only[rB,rP,rQ,q8,qa,q7,qb,reduceIte,reduceCtorEq,Nat.reduceAdd,Nat.reduceLT,Nat.reduceEqDiff,UInt8.reduceToNat,pe3,pf3,t0,t4,t5,zJ,g1,vl,vi,Tryz.results30])
  exact hk s' M K pv R _ ι ν κ φ (by rw[hrun]) SR Rp hown hE hB'
 | succ n =>
  have hlt:k < es.length:=by omega
  have g1:=Yd hlt
  have ew:=zL (k:=k) (by omega)
  have hke:es[k]?=some es[k]:=List.getElem?_eq_getElem hlt
  have htk:es.take (k+1)=es.take k++[es[k]]:=by rw[List.take_add_one,hke];rfl
  rw[List.drop_eq_getElem_cons hlt] at hrun
  have hmem:es[k]∈es:=List.getElem_mem hlt
  generalize es[k]=e at hke hrun hmem htk
  have hpe:=hp e hmem
  rw[XH] at hrun
  obtain⟨id,o,ob,y1,y2s,y3,y4,z0,z1,z2,z3,yb⟩:=hV.fld hke
  have hid:=hB _ _ y2s
  have y2:=(hE.2 _ hid).trans y2s
  have yl:=y3 s' y2
  repeat (first|with_reducible (refine q9 H ?_;constructor)|simp only[rB,rP,rQ,q8,qa,q7,qb,reduceIte,reduceCtorEq,Nat.reduceAdd,Nat.reduceLT,Nat.reduceEqDiff,UInt8.reduceToNat,pe3,pf3,t0,t4,t5,zJ,g1,vl,vi,y1,yl,y2,y4]|(with_reducible refine qy H (i:=7) (.take 0 (.take 1 (.take 2 (.take 3 (.alt 4 [0,1,2,3] (.take 5 (.take 6 (.take 7 (.take 8 (.take 9 (.take 10 (.take 11 (.take 12 (.take 13 (.take 14 (.take 15 (.take 16 (.take 17 (.take 18 (.take 19 (.take 20 (.alt 21 [0,1,2,3,4,5,6,7,8,9,10,11,12,13,14,15,16,17,18,19,20] (.take 22 (.take 23 (.take 24 (.done)))) (.yes)))))))))))))))))) (.yes)))))) rfl (by kernel_rfl) ?_)|(refine q2n H hB' hpe (fun s4 hE4 hB4=>?_)))
  have y5:=(hE4.2 _ (hB' _ _ y2)).trans y2
  have hEs4:Ext s s4:=hE.trans hE4
  rw[qwx]
  cases hm:YW e with
  | false =>
   rw[hm] at hrun
   repeat (first|with_reducible (refine q9 H ?_;constructor)|simp only[rB,rP,rQ,q8,qa,q7,qb,reduceIte,reduceCtorEq,Nat.reduceAdd,Nat.reduceLT,Nat.reduceEqDiff,UInt8.reduceToNat,pe3,pf3,t0,t4,t5,Bool.not_false,y2,y5,yb,Tryz.results30]|(with_reducible refine qy H (i:=7) (.take 0 (.take 1 (.take 2 (.take 3 (.alt 4 [0,1,2,3] (.take 5 (.take 6 (.take 7 (.take 8 (.take 9 (.take 10 (.take 11 (.take 12 (.take 13 (.take 14 (.take 15 (.take 16 (.take 17 (.take 18 (.take 19 (.take 20 (.alt 21 [0,1,2,3,4,5,6,7,8,9,10,11,12,13,14,15,16,17,18,19,20] (.take 22 (.take 23 (.take 24 (.done)))) (.yes)))))))))))))))))) (.yes)))))) rfl (by kernel_rfl) ?_))
   exact hf s4 (by rw[hrun];rfl) hEs4 hB4
  | true =>
  rw[hm,cond_true] at hrun
  have Rp4:=Rp.ext hB' hE4
  have may_path:∀ {a:En},YW a=true→Zd a.1=true:=fun {a} h=>by
   unfold YW at h
   cases hh:Zd a.1 with
   | true=>rfl
   | false=>rw[hh] at h;cases h
  have le140:=(XR hm).1
  by_cases hok:okP pv e.1=true
  rotate_left
  ·have hok:okP pv e.1=false:=by cases h:okP pv e.1 <;> simp_all
   rw[hok] at hrun
   rcases hpv with⟨_,rfl⟩|⟨e',hk0,hke',rfl,hme'⟩
   ·cases hok
   ·obtain⟨id',o',ob',w1,w2,w3,w4,v0,v1,v2,v3,vb⟩:=(hV'.ext hB' hE4).fld hke'
    have elt:QW e'.1 e.1=false:=(qh6 (may_path hme') (may_path hm)).trans hok
    have ek:IntKind.i64.wrap ((k:Int) - 1)=((k - 1:Nat):Int):=by
     rw[show (k:Int) - 1=((k - 1:Nat):Int) from by omega]
     exact qU (by omega)
    have g2:decide ((k:Int) > 0)=true:=by rw[decide_eq_true_eq];omega
    repeat (first|with_reducible (refine q9 H ?_;constructor)|simp only[rB,rP,rQ,q8,qa,q7,qb,reduceIte,reduceCtorEq,Nat.reduceAdd,Nat.reduceLT,Nat.reduceEqDiff,UInt8.reduceToNat,pe3,pf3,t0,t4,t5,Bool.not_true,Bool.not_false,y1,y2,y5,yb,zD,g2,zf,ek,w1,w2,w4,q7q,qD,v0,z0,y4,vb,Tryz.results30]|(with_reducible refine qy H (i:=7) (.take 0 (.take 1 (.take 2 (.take 3 (.alt 4 [0,1,2,3] (.take 5 (.take 6 (.take 7 (.take 8 (.take 9 (.take 10 (.take 11 (.take 12 (.take 13 (.take 14 (.take 15 (.take 16 (.take 17 (.take 18 (.take 19 (.take 20 (.alt 21 [0,1,2,3,4,5,6,7,8,9,10,11,12,13,14,15,16,17,18,19,20] (.take 22 (.take 23 (.take 24 (.done)))) (.yes)))))))))))))))))) (.yes)))))) rfl (by kernel_rfl) ?_)|(refine qf9 H (by have:=(XR hme').1;omega) ?_;rw[elt]))
    exact hf s4 (by rw[hrun];rfl) hEs4 hB4
  rw[hok,cond_true] at hrun
  rcases hpv with⟨hk0,hpv⟩|⟨e',hk0,hke',hpv,hme'⟩
  focus
   have g2:decide ((k:Int) > 0)=false:=by rw[decide_eq_false_iff_not];omega
   repeat (first|with_reducible (refine q9 H ?_;constructor)|simp only[rB,rP,rQ,q8,qa,q7,qb,reduceIte,reduceCtorEq,Nat.reduceAdd,Nat.reduceLT,Nat.reduceEqDiff,UInt8.reduceToNat,pe3,pf3,t0,t4,t5,Bool.not_true,y1,y2,y5,yb,y4,zD,g2,q7q,qD,z0]|(with_reducible refine qy H (i:=7) (.take 0 (.take 1 (.take 2 (.take 3 (.alt 4 [0,1,2,3] (.take 5 (.take 6 (.take 7 (.take 8 (.take 9 (.take 10 (.take 11 (.take 12 (.take 13 (.take 14 (.take 15 (.take 16 (.take 17 (.take 18 (.take 19 (.take 20 (.alt 21 [0,1,2,3,4,5,6,7,8,9,10,11,12,13,14,15,16,17,18,19,20] (.take 22 (.take 23 (.take 24 (.done)))) (.yes)))))))))))))))))) (.yes)))))) rfl (by kernel_rfl) ?_))
  rotate_left
  focus
   obtain⟨id',o',ob',w1,w2,w3,w4,v0,v1,v2,v3,vb⟩:=(hV'.ext hB' hE4).fld hke'
   rw[hpv] at hok
   have elt:QW e'.1 e.1=true:=(qh6 (may_path hme') (may_path hm)).trans hok
   have ek:IntKind.i64.wrap ((k:Int) - 1)=((k - 1:Nat):Int):=by
    rw[show (k:Int) - 1=((k - 1:Nat):Int) from by omega]
    exact qU (by omega)
   have g2:decide ((k:Int) > 0)=true:=by rw[decide_eq_true_eq];omega
   repeat (first|with_reducible (refine q9 H ?_;constructor)|simp only[rB,rP,rQ,q8,qa,q7,qb,reduceIte,reduceCtorEq,Nat.reduceAdd,Nat.reduceLT,Nat.reduceEqDiff,UInt8.reduceToNat,pe3,pf3,t0,t4,t5,Bool.not_true,Bool.not_false,y1,y2,y5,yb,zD,g2,zf,ek,w1,w2,w4,q7q,qD,v0,z0,y4,vb]|(with_reducible refine qy H (i:=7) (.take 0 (.take 1 (.take 2 (.take 3 (.alt 4 [0,1,2,3] (.take 5 (.take 6 (.take 7 (.take 8 (.take 9 (.take 10 (.take 11 (.take 12 (.take 13 (.take 14 (.take 15 (.take 16 (.take 17 (.take 18 (.take 19 (.take 20 (.alt 21 [0,1,2,3,4,5,6,7,8,9,10,11,12,13,14,15,16,17,18,19,20] (.take 22 (.take 23 (.take 24 (.done)))) (.yes)))))))))))))))))) (.yes)))))) rfl (by kernel_rfl) ?_)|(refine qf9 H (by have:=(XR hme').1;omega) ?_;rw[elt]))
   rw[← hpv] at hok
  all_goals
   refine VT H (by omega) ?_
   obtain⟨hfind,hstep⟩:=qpn SR hm hok
   repeat (first|with_reducible (refine q9 H ?_;constructor)|simp only[rB,rP,rQ,q8,qa,q7,qb,reduceIte,reduceCtorEq,Nat.reduceAdd,Nat.reduceLT,Nat.reduceEqDiff,UInt8.reduceToNat,t0,t4,t5])
   refine Wa H Rp4 hB4 (by
    have:(Qc e.1).1.length≤e.1.length:=by
     unfold Qc
     cases decide (Q9 e.1 47 e.1.length ≥ 0)
     ·exact Nat.zero_le _
     ·simp only[cond_true,List.length_take]
      omega
    omega) (fun s5 hE5 hB5=>?_)
   rw[hfind]
   have Rp5:=Rp4.ext hB4 hE5
   have y6:s5.h.get id=some ob:=(hE5.2 _ (hB4 _ _ y5)).trans y5
   have hEs5:Ext s s5:=hEs4.trans hE5
   cases hl:qM (e.1.take (Z8 e.1)) K with
   | none =>
    rw[hl] at hrun
    repeat (first|with_reducible (refine q9 H ?_;constructor)|simp only[rB,rP,rQ,q8,qa,q7,qb,reduceIte,reduceCtorEq,Nat.reduceAdd,Nat.reduceLT,Nat.reduceEqDiff,UInt8.reduceToNat,t0,t4,t5,Xb,qwa,qht,qmd,ZY,Tryz.results30])
    exact hf s5 (by rw[hrun]) hEs5 hB5
   | some u =>
    obtain⟨ud,rd,hu,hrd,hkk,hmk⟩:=hstep u hl
    rw[hl] at hrun
    simp only[hu] at hrun
    obtain⟨r1,r2,r3⟩:=Rp5.nd u rd hrd
    cases hkd:ud.kind != 1 with
    | true =>
     have g3:(rd.kind != 1)=true:=by rw[hkk];exact hkd
     rw[hkd] at hrun
     repeat (first|with_reducible (refine q9 H ?_;constructor)|simp only[rB,rP,rQ,q8,qa,q7,qb,reduceIte,reduceCtorEq,Nat.reduceAdd,Nat.reduceLT,Nat.reduceEqDiff,UInt8.reduceToNat,t0,t4,t5,QD,WD,qok,qV,qg1,qK,r1,qyj,qa3,qH,g3,Tryz.results30])
     exact hf s5 (by rw[hrun];rfl) hEs5 hB5
    | false =>
     have g3:(rd.kind != 1)=false:=by rw[hkk];exact hkd
     rw[hkd,cond_false] at hrun
     have hidl:=hB5 _ _ y6
     have m1:(id=s5.nx)=False:=by simp;omega
     have hx5:=Rp5.tr
     have lx:=Rp5.lx hB5
     obtain⟨nx0,nx1⟩:=Rp5.nx
     have hnx:=SR.nxt
     have htl:(es.take k).length=k:=by rw[List.length_take];omega
     rw[htl] at hnx
     obtain⟨k1,k2,k3,SR'⟩:=hmk (by simpa using hkd) (by omega)
     have hul:=(List.getElem?_eq_some_iff.mp hrd).1
     repeat (first|with_reducible (refine q9 H ?_;constructor)|simp only[rB,rP,rQ,q8,qa,q7,qb,reduceIte,reduceCtorEq,Nat.reduceAdd,Nat.reduceLT,Nat.reduceEqDiff,UInt8.reduceToNat,pe3,pf3,t0,t4,t5,QD,WD,qok,qV,qg1,qK,qD,r1,qyj,qa3,qH,g3,y1,y4,y6,yb,m1,z1,z2,z3,fe_1,fe_2,fe_3,q19,qf]|(with_reducible refine qy H (i:=13) (.take 0 (.take 1 (.take 2 (.take 3 (.take 4 (.take 5 (.take 6 (.take 7 (.take 8 (.take 9 (.take 10 (.take 11 (.take 12 (.take 13 (.take 14 (.take 15 (.take 16 (.take 17 (.take 18 (.alt 19 [3,4,5,6,7,8,9,10,11,12,13,14,15,16,17,18] (.alt 20 [2,3,4,5,6,7,8,9,10,11,12,13,14,15,16,17,18,19] (.alt 21 [0,1,2,3,4,5,6,7,8,9,10,11,12,13,14,15,16,17,18,19,20] (.done) (.yes)) (.yes)) (.yes))))))))))))))))))))) rfl (by kernel_rfl) ?_))
     have a1:(s5.alloc (rnA ι (Yf e.2.1 e.2.2.1 e.2.2.2) nilS nilS)).h.get (s.nx+1)=some (rtA (ι 0) (ι R.cwd) φ R.next):=(zg (by omega)).trans hx5
     have a2:(s5.alloc (rnA ι (Yf e.2.1 e.2.2.1 e.2.2.2) nilS nilS)).h.get s5.nx=some (rnA ι (Yf e.2.1 e.2.2.1 e.2.2.2) nilS nilS):=qu
     have a3:(s5.alloc (rnA ι (Yf e.2.1 e.2.2.1 e.2.2.2) nilS nilS)).h.get id=some ob:=(zg (by omega)).trans y6
     refine qtd H (qx hB5 _) a1 a2 (by omega) ⟨nx0,nx1⟩ (fun s7 hn7 hB7 b1 b2 b3=>?_)
     have y7:s7.h.get id=some ob:=(b3 _ (by omega) (by omega)).trans a3
     have hn7:s7.nx=s5.nx+1:=hn7
     obtain⟨Ra,Na⟩:=Rp5.add (s':=s7) hB5 (y:=s5.nx) (nd:=Yf e.2.1 e.2.2.1 e.2.2.2) ⟨rfl,rfl,rfl⟩ (Nat.le_refl _) (by omega) b1 b2 (fun i hi h1=>(b3 i h1 (by omega)).trans (zg (by omega))) (by omega)
     have hu7:(Wr R (Yf e.2.1 e.2.2.1 e.2.2.2)).nodes[u]?=some rd:=(List.getElem?_append_left hul).trans hrd
     have hj7:(Wr R (Yf e.2.1 e.2.2.1 e.2.2.2)).nodes[R.nodes.length]?=some { Yf e.2.1 e.2.2.1 e.2.2.2 with id:=R.next+1 }:=by
      unfold Wr
      simp
     repeat (first|with_reducible (refine q9 H ?_;constructor)|simp only[rB,rP,rQ,q8,qa,q7,qb,reduceIte,reduceCtorEq,Nat.reduceAdd,Nat.reduceLT,Nat.reduceEqDiff,UInt8.reduceToNat,pe3,pf3,t0,t4,t5,y7,yb,beqA]|(with_reducible refine qy H (i:=13) (.take 0 (.take 1 (.take 2 (.take 3 (.take 4 (.take 5 (.take 6 (.take 7 (.take 8 (.take 9 (.take 10 (.take 11 (.take 12 (.take 13 (.take 14 (.take 15 (.take 16 (.take 17 (.take 18 (.alt 19 [3,4,5,6,7,8,9,10,11,12,13,14,15,16,17,18] (.alt 20 [2,3,4,5,6,7,8,9,10,11,12,13,14,15,16,17,18,19] (.alt 21 [0,1,2,3,4,5,6,7,8,9,10,11,12,13,14,15,16,17,18,19,20] (.done) (.yes)) (.yes)) (.yes))))))))))))))))))))) rfl (by kernel_rfl) ?_))
     refine qt7 H Ra hB7 (u:=u) (j:=R.nodes.length) (if_neg (by omega)) (if_pos rfl) hu7 hj7 (fun e=>k3 e.symm) k1 k2 (fun s8 ν8 κ8 R8 hB8 N8=>?_)
     have NN:=Na.trans N8
     have hE8:Ext s s8:=⟨by have:=NN.nx;have:=hEs5.1;omega,fun i hi=>by
      have h5:=hEs5.1
      have:s8.h.get i=s5.h.get i:=NN.fr i (by omega) (fun ho=>by have:=hown i ho;omega)
      exact this.trans (hEs5.2 i hi)⟩
     repeat (first|with_reducible (refine q9 H ?_;constructor)|simp only[rB,rP,rQ,q8,qa,q7,qb,reduceIte,reduceCtorEq,Nat.reduceAdd,Nat.reduceLT,Nat.reduceEqDiff,UInt8.reduceToNat,t0,t4,t5,qI,ew,y7,yb]|(with_reducible refine qy H (i:=13) (.take 0 (.take 1 (.take 2 (.take 3 (.take 4 (.take 5 (.take 6 (.take 7 (.take 8 (.take 9 (.take 10 (.take 11 (.take 12 (.take 13 (.take 14 (.take 15 (.take 16 (.take 17 (.take 18 (.alt 19 [3,4,5,6,7,8,9,10,11,12,13,14,15,16,17,18] (.alt 20 [2,3,4,5,6,7,8,9,10,11,12,13,14,15,16,17,18,19] (.alt 21 [0,1,2,3,4,5,6,7,8,9,10,11,12,13,14,15,16,17,18,19,20] (.done) (.yes)) (.yes)) (.yes))))))))))))))))))))) rfl (by kernel_rfl) ?_))
     refine ih n _ _ (Nat.lt_succ_self n) ⟨k+1,_,_,some e.1,_,_,ν8,κ8,φ,by omega,by simp only[rB,rP,rQ,q8,qa,q7,qb,reduceIte,reduceCtorEq,Nat.reduceAdd,Nat.reduceLT,Nat.reduceEqDiff,UInt8.reduceToNat,t0],by simp only[rB,rP,rQ,q8,qa,q7,qb,reduceIte,reduceCtorEq,Nat.reduceAdd,Nat.reduceLT,Nat.reduceEqDiff,UInt8.reduceToNat,t4],by simp only[rB,rP,rQ,q8,qa,q7,qb,reduceIte,reduceCtorEq,Nat.reduceAdd,Nat.reduceLT,Nat.reduceEqDiff,UInt8.reduceToNat],hE8,hB8,R8,fun i hi=>?_,by rw[htk];exact SR',Or.inr ⟨e,by omega,by simpa using hke,rfl,hm⟩,hrun⟩
     rcases NN.ow i hi with h|h
     ·exact hown i h
     ·have:=hEs5.1
      omega
end Go.AX
