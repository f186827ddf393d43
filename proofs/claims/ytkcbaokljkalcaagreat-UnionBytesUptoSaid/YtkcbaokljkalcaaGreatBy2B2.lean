import Derived.Test.YtkcbaokljkalcaaGreatBy2A3
import Derived.Test.YtkcbaokljkalcaaGreatProg
import Derived.Test.YtkcbaokljkalcaaGreatBy2A2
import Derived.Test.YtkcbaokljkalcaaGreatBy2B1
set_option linter.unusedVariables false
set_option linter.unusedSimpArgs false
set_option linter.defProp false
namespace Go.AX
open Go.Proofs Go.RowKit
noncomputable def TE:Env:=qwt Tryz.prog
theorem qD (s:St) (x o:Nat):Q3 TE s 9 (.ptr x o)=ldC s x o:=ZP (by kernel_rfl)
theorem qct (s:St) (x o:Nat) (v:AV) (h1:v.cells=[v]) (h2:v.one=true):Qu TE s 9 (.ptr x o) v=stC s x o v:=VC (by kernel_rfl) h1 h2
theorem qK (s:St) (x o:Nat):Q3 TE s 3 (.ptr x o)=ldC s x o:=ZP (by kernel_rfl)
theorem qlf (s:St) (x o:Nat) (v:AV) (h1:v.cells=[v]) (h2:v.one=true):Qu TE s 3 (.ptr x o) v=stC s x o v:=VC (by kernel_rfl) h1 h2
theorem qts (s:St) (x o:Nat):Q3 TE s 4 (.ptr x o)=ldC s x o:=ZP (by kernel_rfl)
theorem qtb (s:St) (x o:Nat) (v:AV) (h1:v.cells=[v]) (h2:v.one=true):Qu TE s 4 (.ptr x o) v=stC s x o v:=VC (by kernel_rfl) h1 h2
theorem QJ (s:St) (x o:Nat):Q3 TE s 36 (.ptr x o)=ldC s x o:=ZP (by kernel_rfl)
theorem KU (s:St) (x o:Nat) (v:AV) (h1:v.cells=[v]) (h2:v.one=true):Qu TE s 36 (.ptr x o) v=stC s x o v:=VC (by kernel_rfl) h1 h2
theorem YQ (s:St) (x o:Nat):Q3 TE s 57 (.ptr x o)=ldC s x o:=ZP (by kernel_rfl)
theorem JY (s:St) (x o:Nat) (v:AV) (h1:v.cells=[v]) (h2:v.one=true):Qu TE s 57 (.ptr x o) v=stC s x o v:=VC (by kernel_rfl) h1 h2
theorem KK (s:St) (x o:Nat):Q3 TE s 112 (.ptr x o)=ldC s x o:=ZP (by kernel_rfl)
theorem q0e (s:St) (x o:Nat) (v:AV) (h1:v.cells=[v]) (h2:v.one=true):Qu TE s 112 (.ptr x o) v=stC s x o v:=VC (by kernel_rfl) h1 h2
theorem q46 (s:St) (x o:Nat):Q3 TE s 72 (.ptr x o)=ldC s x o:=ZP (by kernel_rfl)
theorem J3 (s:St) (x o:Nat):Q3 TE s 115 (.ptr x o)=ldC s x o:=ZP (by kernel_rfl)
theorem VO (s:St) (x o:Nat):Q3 TE s 29 (.ptr x o)=ldC s x o:=ZP (by kernel_rfl)
theorem fn_3:TE.fn.get 3=some Tryz.f3:=by kernel_rfl
theorem fn_9:TE.fn.get 9=some Tryz.f9:=by kernel_rfl
theorem q78:TE.fn.get 10=some Tryz.f10:=by kernel_rfl
theorem q7w:TE.fn.get 11=some Tryz.f11:=by kernel_rfl
theorem q8d:TE.fn.get 13=some Tryz.f13:=by kernel_rfl
theorem q5r:TE.fn.get 16=some Tryz.f16:=by kernel_rfl
theorem q56:TE.fn.get 21=some Tryz.f21:=by kernel_rfl
theorem q6e:TE.fn.get 22=some Tryz.f22:=by kernel_rfl
theorem q71:TE.fn.get 23=some Tryz.f23:=by kernel_rfl
theorem q7s:TE.fn.get 30=some Tryz.f30:=by kernel_rfl
theorem q3p:TE.fn.get 31=some Tryz.f31:=by kernel_rfl
theorem q8j:TE.fn.get 40=some Tryz.f40:=by kernel_rfl
theorem q55:TE.fn.get 41=some Tryz.f41:=by kernel_rfl
theorem q5p:TE.fn.get 42=some Tryz.f42:=by kernel_rfl
theorem q73:TE.fn.get 43=some Tryz.f43:=by kernel_rfl
theorem q5b:TE.fn.get 45=some Tryz.f45:=by kernel_rfl
theorem q8r:TE.fn.get 49=some Tryz.f49:=by kernel_rfl
theorem q68:TE.fn.get 50=some Tryz.f50:=by kernel_rfl
theorem q8g:TE.fn.get 53=some Tryz.f53:=by kernel_rfl
theorem q7x:TE.fn.get 54=some Tryz.f54:=by kernel_rfl
theorem q7h:TE.fn.get 55=some Tryz.f55:=by kernel_rfl
theorem qy6:TE.fn.get 56=some Tryz.f56:=by kernel_rfl
theorem q7n:TE.fn.get 57=some Tryz.f57:=by kernel_rfl
theorem q17:TE.fn.get 58=some Tryz.f58:=by kernel_rfl
theorem q2c:TE.fn.get 59=some Tryz.f59:=by kernel_rfl
theorem q66:TE.fn.get 61=some Tryz.f61:=by kernel_rfl
theorem q5g:TE.fn.get 64=some Tryz.f64:=by kernel_rfl
theorem q18:TE.fn.get 65=some Tryz.f65:=by kernel_rfl
theorem q7f:TE.fn.get 70=some Tryz.f70:=by kernel_rfl
theorem q5n:TE.fn.get 72=some Tryz.f72:=by kernel_rfl
theorem q64:TE.fn.get 75=some Tryz.f75:=by kernel_rfl
theorem q5z:TE.fn.get 76=some Tryz.f76:=by kernel_rfl
theorem q5x:TE.fn.get 78=some Tryz.f78:=by kernel_rfl
theorem q5a:TE.fn.get 79=some Tryz.f79:=by kernel_rfl
theorem q8h:TE.fn.get 80=some Tryz.f80:=by kernel_rfl
theorem q6q:TE.fn.get 82=some Tryz.f82:=by kernel_rfl
theorem q6a:TE.fn.get 88=some Tryz.f88:=by kernel_rfl
theorem q6l:TE.fn.get 89=some Tryz.f89:=by kernel_rfl
theorem q8e:TE.fn.get 90=some Tryz.f90:=by kernel_rfl
theorem q8k:TE.fn.get 91=some Tryz.f91:=by kernel_rfl
theorem q8q:TE.fn.get 92=some Tryz.f92:=by kernel_rfl
theorem q5v:TE.fn.get 93=some Tryz.f93:=by kernel_rfl
theorem q7i:TE.fn.get 94=some Tryz.f94:=by kernel_rfl
theorem q57:TE.fn.get 95=some Tryz.f95:=by kernel_rfl
theorem q3i:TE.fn.get 96=some Tryz.f96:=by kernel_rfl
theorem q6o:TE.fn.get 97=some Tryz.f97:=by kernel_rfl
theorem qzx:TE.fn.get 100=some Tryz.f100:=by kernel_rfl
theorem qz9:TE.fn.get 103=some Tryz.f103:=by kernel_rfl
theorem q11:TE.fn.get 104=some Tryz.f104:=by kernel_rfl
theorem q2a:TE.fn.get 105=some Tryz.f105:=by kernel_rfl
theorem q2s:TE.fn.get 106=some Tryz.f106:=by kernel_rfl
theorem quc:TE.fn.get 109=some Tryz.f109:=by kernel_rfl
theorem q1o:TE.fn.get 110=some Tryz.f110:=by kernel_rfl
theorem q4b:TE.fn.get 111=some Tryz.f111:=by kernel_rfl
theorem q09:TE.fn.get 114=some Tryz.f114:=by kernel_rfl
theorem q34:TE.fn.get 115=some Tryz.f115:=by kernel_rfl
theorem qzl:TE.fn.get 116=some Tryz.f116:=by kernel_rfl
theorem q06:TE.fn.get 117=some Tryz.f117:=by kernel_rfl
theorem q03:TE.fn.get 118=some Tryz.f118:=by kernel_rfl
theorem q1u:TE.fn.get 119=some Tryz.f119:=by kernel_rfl
theorem q2v:TE.fn.get 121=some Tryz.f121:=by kernel_rfl
theorem q21:TE.fn.get 123=some Tryz.f123:=by kernel_rfl
theorem qzr:TE.fn.get 124=some Tryz.f124:=by kernel_rfl
theorem q2t:TE.fn.get 125=some Tryz.f125:=by kernel_rfl
theorem q1s:TE.fn.get 126=some Tryz.f126:=by kernel_rfl
theorem q29:TE.fn.get 127=some Tryz.f127:=by kernel_rfl
theorem q0x:TE.fn.get 128=some Tryz.f128:=by kernel_rfl
theorem q3k:TE.fn.get 129=some Tryz.f129:=by kernel_rfl
theorem q00:TE.fn.get 130=some Tryz.f130:=by kernel_rfl
theorem qzc:TE.fn.get 131=some Tryz.f131:=by kernel_rfl
theorem qzb:TE.fn.get 132=some Tryz.f132:=by kernel_rfl
theorem q1t:TE.fn.get 135=some Tryz.f135:=by kernel_rfl
theorem q07:TE.fn.get 137=some Tryz.f137:=by kernel_rfl
theorem qzz:TE.fn.get 138=some Tryz.f138:=by kernel_rfl
theorem q22:TE.fn.get 139=some Tryz.f139:=by kernel_rfl
theorem q2y:TE.fn.get 140=some Tryz.f140:=by kernel_rfl
theorem q0z:TE.fn.get 141=some Tryz.f141:=by kernel_rfl
theorem q38:TE.fn.get 142=some Tryz.f142:=by kernel_rfl
theorem q4l:TE.fn.get 143=some Tryz.f143:=by kernel_rfl
theorem q0h:TE.fn.get 144=some Tryz.f144:=by kernel_rfl
theorem q16:TE.fn.get 146=some Tryz.f146:=by kernel_rfl
theorem q31:TE.fn.get 147=some Tryz.f147:=by kernel_rfl
theorem q4h:TE.fn.get 148=some Tryz.f148:=by kernel_rfl
theorem q12:TE.fn.get 150=some Tryz.f150:=by kernel_rfl
theorem q32:TE.fn.get 154=some Tryz.f154:=by kernel_rfl
theorem q0m:TE.fn.get 156=some Tryz.f156:=by kernel_rfl
theorem q0o:TE.fn.get 161=some Tryz.f161:=by kernel_rfl
theorem q0n:TE.fn.get 162=some Tryz.f162:=by kernel_rfl
theorem q1n:TE.fn.get 163=some Tryz.f163:=by kernel_rfl
theorem q28:TE.fn.get 164=some Tryz.f164:=by kernel_rfl
theorem q4d:TE.fn.get 165=some Tryz.f165:=by kernel_rfl
theorem q3d:TE.fn.get 166=some Tryz.f166:=by kernel_rfl
theorem q2h:TE.fn.get 167=some Tryz.f167:=by kernel_rfl
theorem q1y:TE.fn.get 168=some Tryz.f168:=by kernel_rfl
theorem q4m:TE.fn.get 174=some Tryz.f174:=by kernel_rfl
theorem qtn:TE.fn.get 179=some Tryz.f179:=by kernel_rfl
theorem q3g:TE.fn.get 180=some Tryz.f180:=by kernel_rfl
theorem q1g:TE.fn.get 181=some Tryz.f181:=by kernel_rfl
theorem q1a:TE.fn.get 202=some Tryz.f202:=by kernel_rfl
end Go.AX
namespace Go.Proofs
open Go.RowKit Go.Maps Go.Sort Go.Shelf Go.AX
def pn:PN:={ indexByte:=220,join:=149,rep:=136,sorted:=133,keys:=153,tyStr:=9,anyOf:=171 }
theorem Tryz.sorts120 (m:Nat):AnyZ.SortsIn Tryz.prog Tryz.sorted120_ren Fence.wide m :=
  ⟨fun blk off cap ss W hH hblk hsz=>callsIn_wide.2 (AnyM.slices_Sort_string Tryz.sort133 blk off cap ss W hH hblk hsz),
   fun p cap W=>callsIn_wide.2 (AnyM.slices_Sort_string_none Tryz.sort133 p cap W)⟩
set_option maxHeartbeats 1000000 in
theorem Tryz.sortedKeys (c b nn:Nat) (D0:DataW Unit) (R:Value→Option (DataW Unit × List MemPlace)) (W:World) (hc:c < W.heap.size) (hm:W.cell? ⟨c,0,none⟩=some (.map (some b))) (hown:W.ownsMap Tryz.prog 9 R b nn D0) (hmax:Maps.size D0≤maxLen) (hbytes:Maps.size D0 * 16≤140737488355328) :
    CallsIn Fence.wide 5 Tryz.prog 133 #[.func (.func 153) #[] #[.pointer (some ⟨c,0,none⟩)]] W fun e w'=>∃ (v:Value) (ss:List (List UInt8)),e=.returned v∧ss.Perm (strKeys D0) ∧
      w'.ownsRow W.heap.size 9 1 v ss.length ((ss.mergeSort (fun x y=>decide (x≤y))).map encStr)∧(v=.slice none 0 0↔ss=[])∧Go.RowKit.Below W.heap.size W w':=by
  have hseq:SeqGives Fence.wide 2 Tryz.prog 153 #[.pointer (some ⟨c,0,none⟩)] encStr (fun ss=>ss.Perm (strKeys D0)) (Maps.size D0) W :=
    AnyZ.keys_gives (ρ:=Tryz.keys121_ren) { Tryz.keys121 with } Fence.wide _ trivial rfl (by omega) c b nn D0 _ hc hm hown
  exact AnyZ.sorted_in Tryz.sorted120 Fence.wide 5 trivial trivial trivial trivial rfl (by omega) (Tryz.sorts120 _) (enters_of Tryz.func152 (by kernel_rfl) rfl) 153 #[.pointer (some ⟨c,0,none⟩)] trivial (enters_of Tryz.func153 (by kernel_rfl) rfl) _ _ hmax hbytes _ hseq
theorem Tryz.libOk:LibOk Tryz.prog pn:={
  byte:=fun args w=>run_callFunc_indexByte Tryz.func220 (by kernel_rfl) (by kernel_rfl) (by kernel_rfl) (by kernel_rfl) args w
  joinE:=enters_of Tryz.func149 (by kernel_rfl) rfl
  join0:=fun a c sep w=>Any.strings_Join_none Tryz.lays156 Tryz.Builder_Extra_156 a c sep w
  join:=fun bk o c xs sep w h1 h2 h3 h4 h5=>Any.strings_Join Tryz.lays156 Tryz.Builder_Extra_156 bk o c xs sep w h1 h2 h3 h4 h5
  repE:=enters_of Tryz.func136 (by kernel_rfl) rfl
  rep:=fun s c w h1 h2=>Any.strings_Repeat Tryz.lays105 Tryz.Builder_Extra_105 s c w h1 h2
  anyE:=enters_of Tryz.func171 (by kernel_rfl) rfl
  any:=fun s w h1=>Any.ContainsAny_sl Tryz.lays150 (by kernel_rfl) s w h1
  sortE:=enters_of Tryz.func133 (by kernel_rfl) rfl
  tyS:=Tryz.underlying9
  sorted:=fun c b nn D0 R W h1 h2 h3 h4 h5=>callsIn_wide.1 (Tryz.sortedKeys c b nn D0 R W h1 h2 h3 h4 h5) }
theorem Tryz.progOk:ProgOk (qwt Tryz.prog) Tryz.prog:=Go.AX.progOk (by kernel_rfl) (by kernel_rfl) (by kernel_rfl)
end Go.Proofs
namespace Go.AX
open Go.Proofs Go.RowKit
set_option maxRecDepth 100000
set_option linter.unusedSimpArgs false
theorem qqp {g:Nat} {args:List AV} {s:St} (h:g≠220):(zc pn).ext g args s=none:=by
  have:Nat.beq g 220=false:=by
    cases hb:Nat.beq g 220 with
    | false=>rfl
    | true=>exact absurd (Nat.eq_of_beq_eq_true hb) h
  simp[zc,qra,pn,this]
theorem QN {g j:Nat} (h:g≠j):Nat.beq g j=false:=by
  cases hb:Nat.beq g j with
  | false=>rfl
  | true=>exact absurd (Nat.eq_of_beq_eq_true hb) h
theorem q25 {g:Nat} {args:List AV} {s:St} (h1:g≠149) (h2:g≠136) (h3:g≠133) (h4:g≠171):(zc pn).fn g args s=none:=by
  simp[zc,qu2,pn,QN h1,QN h2,QN h3,QN h4]
theorem zz {a b:List Nat}:qE .eql (.str a) (.str b)=some (q8 (eqB a b)):=(rfl)
theorem JJ {a b:List Nat} (h:a.length+b.length≤1048576):qE .add (.str a) (.str b)=some (.str (a++b)):=by
  have:Nat.ble (a.length+b.length) 1048576=true:=Nat.ble_eq.mpr h
  simp[qE,this]
theorem qr {k:IntKind} {a b:Int}:qE .eql (.raw (.int k a)) (.raw (.int k b))=some (q8 (a==b)):=by simp[qE]
theorem qH {k:IntKind} {a b:Int}:qE .neq (.raw (.int k a)) (.raw (.int k b))=some (q8 (a != b)):=by simp[qE]
theorem zJ {k:IntKind} {a b:Int}:qE .lss (.raw (.int k a)) (.raw (.int k b))=some (q8 (decide (a < b))):=by simp[qE]
theorem YL {k:IntKind} {a b:Int}:qE .leq (.raw (.int k a)) (.raw (.int k b))=some (q8 (decide (a≤b))):=by simp[qE]
theorem zD {k:IntKind} {a b:Int}:qE .gtr (.raw (.int k a)) (.raw (.int k b))=some (q8 (decide (a > b))):=by simp[qE]
theorem Y3 {k:IntKind} {a b:Int}:qE .geq (.raw (.int k a)) (.raw (.int k b))=some (q8 (decide (a ≥ b))):=by simp[qE]
theorem qI {k:IntKind} {a b:Int}:qE .add (.raw (.int k a)) (.raw (.int k b))=some (.raw (.int k (k.wrap (a+b)))):=by simp[qE]
theorem zf {k:IntKind} {a b:Int}:qE .sub (.raw (.int k a)) (.raw (.int k b))=some (.raw (.int k (k.wrap (a - b)))):=by simp[qE]
theorem ql {s:St} {l:List Nat}:Q5 TE s [9] [.str l]=some (qa l.length):=by kernel_rfl
theorem Kr {a b:List Nat}:eqB a b=decide (a=b):=qG a b
theorem Qa {a b:List Nat} (h:a≠b):eqB a b=false:=by rw[Kr];simpa using h
theorem qS {a:List Nat}:eqB a a=true:=by rw[Kr];simp
def unF (e:Env) (u:UnOp) (v:AV):Option AV:=VI (qt e ⟨Tr.e.set 0 v,1,[]⟩ ⟨none,.unOp u 0 (.tmp 0),0,default,#[],none⟩)
theorem q1m {e:Env} {b:Bool}:unF e .not (.raw (.bool b))=some (.raw (.bool !b)):=(rfl)
theorem q5h {e:Env} {a:Ac} {dst:Option Tmp} {u:UnOp} {t:TypeId} {x:Operand} {ty:TypeId} {pos:String} {after:Array Edge}:VI (qt e a ⟨dst,.unOp u t x,ty,pos,after,none⟩)=unF e u (a.eval x):=by
  have h:Ac.eval ⟨Tr.e.set 0 (a.eval x),1,[]⟩ (.tmp 0)=a.eval x:=by simp[Ac.eval,Tr.get_set]
  have hv:zh ⟨Tr.e.set 0 (a.eval x),1,[]⟩ (.tmp 0)=zh a x:=by simp only[zh,h]
  simp only[unF,qt,execOp,hv]
  simp[Op.operands,h]
def VH:AV→Bool
  | .raw (.int _ _)=>true
  | _=>false
def q9f:AV→AV→Option AV
  | .raw (.int k x),.raw (.int _ y)=>some (.raw (.int k (if y > x then y else x)))
  | _,_=>none
def q9e:AV→AV→Option AV
  | .raw (.int k x),.raw (.int _ y)=>some (.raw (.int k (if y < x then y else x)))
  | _,_=>none
theorem q2k {k:IntKind} {z:Int}:VH (.raw (.int k z))=true:=(rfl)
theorem qqa {k l:IntKind} {x y:Int}:q9f (.raw (.int k x)) (.raw (.int l y))=some (.raw (.int k (if y > x then y else x))):=(rfl)
theorem qqh {k l:IntKind} {x y:Int}:q9e (.raw (.int k x)) (.raw (.int l y))=some (.raw (.int k (if y < x then y else x))):=(rfl)
theorem K3 {v:AV} (h:VH v=true):∃ k z,v=.raw (.int k z):=by
  cases v with
  | raw w=>cases w <;> first|(simp[VH] at h;done)|exact⟨_,_,rfl⟩
  | _=>simp[VH] at h
theorem q5t {e:Env} {a:Ac} {dst:Option Tmp} {x y:Operand} {tys:Array TypeId} {ty:TypeId} {pos:String} {after:Array Edge} (hx:VH (a.eval x)=true) (hy:VH (a.eval y)=true) :
    VI (qt e a ⟨dst,.call { callee:=.builtin .max,args:=#[x,y],argTypes:=tys },ty,pos,after,none⟩)=q9f (a.eval x) (a.eval y):=by
  obtain⟨k,u,hx⟩:=K3 hx
  obtain⟨l,v,hy⟩:=K3 hy
  have h1:zh a x=.int k u:=by simp[zh,hx,zu]
  have h2:zh a y=.int l v:=by simp[zh,hy,zu]
  have hall:(Op.operands (.call { callee:=.builtin .max,args:=#[x,y],argTypes:=tys })).toList.all (fun x=>(zu (a.eval x)).isSome)=true:=by
    show (List.all [x,y] (fun x=>(zu (a.eval x)).isSome))=true
    simp[hx,hy,zu]
  simp only[qt,hall,cond_true]
  have hr:qX e.P (execOp (zh a) ⟨dst,.call { callee:=.builtin .max,args:=#[x,y],argTypes:=tys },ty,pos,after,none⟩)=some (.value (.int k (if v > u then v else u))):=by
    have:execOp (zh a) ⟨dst,.call { callee:=.builtin .max,args:=#[x,y],argTypes:=tys },ty,pos,after,none⟩=.pure (.value (.int k (if v > u then v else u))):=by
      simp only[execOp,resolve]
      simp[h1,h2]
      rfl
    rw[this];rfl
  rw[hr,hx,hy]
  rfl
theorem q77 {e:Env} {a:Ac} {dst:Option Tmp} {x y:Operand} {tys:Array TypeId} {ty:TypeId} {pos:String} {after:Array Edge} (hx:VH (a.eval x)=true) (hy:VH (a.eval y)=true) :
    VI (qt e a ⟨dst,.call { callee:=.builtin .min,args:=#[x,y],argTypes:=tys },ty,pos,after,none⟩)=q9e (a.eval x) (a.eval y):=by
  obtain⟨k,u,hx⟩:=K3 hx
  obtain⟨l,v,hy⟩:=K3 hy
  have h1:zh a x=.int k u:=by simp[zh,hx,zu]
  have h2:zh a y=.int l v:=by simp[zh,hy,zu]
  have hall:(Op.operands (.call { callee:=.builtin .min,args:=#[x,y],argTypes:=tys })).toList.all (fun x=>(zu (a.eval x)).isSome)=true:=by
    show (List.all [x,y] (fun x=>(zu (a.eval x)).isSome))=true
    simp[hx,hy,zu]
  simp only[qt,hall,cond_true]
  have hr:qX e.P (execOp (zh a) ⟨dst,.call { callee:=.builtin .min,args:=#[x,y],argTypes:=tys },ty,pos,after,none⟩)=some (.value (.int k (if v < u then v else u))):=by
    have:execOp (zh a) ⟨dst,.call { callee:=.builtin .min,args:=#[x,y],argTypes:=tys },ty,pos,after,none⟩=.pure (.value (.int k (if v < u then v else u))):=by
      simp only[execOp,resolve]
      simp[h1,h2]
      rfl
    rw[this];rfl
  rw[hr,hx,hy]
  rfl
def rQ:=(And.intro (And.intro (And.intro @zz @q5h) (And.intro @q1m (And.intro @q5t @q77))) (And.intro (And.intro @q2k @qqa) (And.intro @qqh (And.intro @qqp @q25))))
def qfz (b:List Nat) (c:Nat):Int:=match qJ b c 0 with|some i=>(i:Int)|none=>-1
theorem quh {r:Tasks} {a:Ac} {dst:Option Tmp} {s:St} {k:Ac→St→Bool} {kp:AV→St→Bool} {b:List Nat} {c:Nat} (hc:c < 256) :
    YN (zc pn) r (.fn 220 []) [.str b,.raw (.int .u8 (.ofNat c))] a dst s k kp=zN a dst (.raw (.int .i64 (qfz b c))) s k:=by
  have:Nat.blt c 256=true:=Nat.blt_eq.mpr hc
  have h:(zc pn).ext 220 ([.str b,.raw (.int .u8 (.ofNat c))]++[]) s=some (.raw (.int .i64 (qfz b c)),s):=by
    show (bif true then (bif Nat.blt c 256 then some (match qJ b c 0 with|some i=>qa i|none=>qa (-1),s) else none) else none)=_
    rw[this]
    simp only[cond_true,qfz]
    cases qJ b c 0 <;> rfl
  simp only[YN,h]
theorem qf5 {s:St} (H:Ok TE Tryz.prog (zc pn)) {b:List Nat} {c:Nat} (hc:c < 256) {kr kp:AV→St→Bool} (hk:kr (.raw (.int .i64 (qfz b c))) s=true) :
    (sem Tryz.prog).call 202 [.str b,.raw (.int .u8 (.ofNat c))] s kr kp=true:=by
  refine qp H 8 q1a rfl rfl ?_
  repeat (first|with_reducible (refine q9 H ?_;constructor)|simp only[rB,rP,rQ,q8,qa,q7,qb,reduceIte,reduceCtorEq,Nat.reduceAdd,Nat.reduceLT,Nat.reduceEqDiff,UInt8.reduceToNat,quh hc,Tryz.results202])
  exact hk
theorem zC {k:IntKind} {n:Nat}:ZX (.raw (.int k (n:Int)))=some n:=(rfl)
theorem q0s {k:IntKind}:ZX (.raw (.int k 0))=some 0:=(rfl)
theorem no_1 {k:IntKind}:ZX (.raw (.int k 1))=some 1:=(rfl)
theorem qi6 {b:List Nat} {i:AV}:Xg TE 9 (.str b) i=match ZX i with
    | some i=>match b[i]? with
      | some c=>some (.raw (.int .u8 (.ofNat c)))
      | none=>none
    | none=>none:=by
  unfold Xg
  cases ZX i <;> kernel_rfl
theorem Ym {b:List Nat} {lo hi:Option AV}:qF TE 9 (.str b) lo hi none=match qA b.length b.length lo hi with
      | some (l,h)=>some (.str ((b.drop l).take (h - l)))
      | none=>none:=by kernel_rfl
theorem Xz {n m i:Nat} {v:AV} (h:ZX v=some i) (hi:i≤m):qA n m none (some v)=some (0,i):=by
  have h1:Nat.ble 0 i=true:=Nat.ble_eq.mpr (Nat.zero_le _)
  have h2:Nat.ble i m=true:=Nat.ble_eq.mpr hi
  simp[qA,h,h1,h2]
theorem qbd {n m i:Nat} {v:AV} (h:ZX v=some i) (hi:i≤n) (hm:n≤m):qA n m (some v) none=some (i,n):=by
  have h1:Nat.ble i n=true:=Nat.ble_eq.mpr hi
  have h2:Nat.ble n m=true:=Nat.ble_eq.mpr hm
  simp[qA,h,h1,h2]
theorem qgs {c:Nat}:∀ {b:List Nat} {k i:Nat},qJ b c k=some i→k≤i∧i < k+b.length
  | [],_,_,h=>by simp[qJ] at h
  | x::l,k,i,h=>by
    simp only[qJ] at h
    cases hx:Nat.beq x c with
    | true=>rw[hx] at h;simp only[cond_true,Option.some.injEq] at h;subst h;simp
    | false =>
      rw[hx] at h
      have:=qgs (b:=l) h
      simp only[List.length_cons]
      omega
theorem qmw {c:Nat}:qJ [c] c 0=some 0:=by simp[qJ]
theorem qhw {s:St} (H:Ok TE Tryz.prog (zc pn)) {b:List Nat} {c:Nat} (hc:c < 256) {kr kp:AV→St→Bool} (hk:kr (.raw (.int .i64 (qfz b c))) s=true) :
    (sem Tryz.prog).call 174 [.str b,.str [c]] s kr kp=true:=by
  refine qp H 143 q4m rfl rfl ?_
  by_cases hb:[c]=b
  · subst hb
    have hi:qfz [c] c=0:=by simp[qfz,qmw]
    rw[hi] at hk
    have e1:(((([c]:List Nat).length:Int))==0)=false:=(rfl)
    repeat (first|with_reducible (refine q9 H ?_;constructor)|simp only[rB,rP,rQ,q8,qa,q7,qb,reduceIte,reduceCtorEq,Nat.reduceAdd,Nat.reduceLT,Nat.reduceEqDiff,UInt8.reduceToNat,ql,qr,e1,qS,Tryz.results174])
    exact hk
  · have e1:(((([c]:List Nat).length:Int))==0)=false:=(rfl)
    have e2:(((([c]:List Nat).length:Int))==1)=true:=(rfl)
    have e3:=Qa hb
    repeat (first|with_reducible (refine q9 H ?_;constructor)|simp only[rB,rP,rQ,q8,qa,q7,qb,reduceIte,reduceCtorEq,Nat.reduceAdd,Nat.reduceLT,Nat.reduceEqDiff,UInt8.reduceToNat,ql,qr,e1,e2,e3,qi6,q0s,Tryz.results174]|(with_reducible refine qf5 H hc ?_))
    exact hk
theorem qU {n:Nat} (h:n < 9223372036854775808):IntKind.i64.wrap (n:Int)=(n:Int):=Go.IntWalk.i64_in _ (by omega)
theorem qkj {s:St} (H:Ok TE Tryz.prog (zc pn)) {b:List Nat} {c i:Nat} (hc:c < 256) (hi:qJ b c 0=some i) (hb:b.length≤1000000) {kr kp:AV→St→Bool} (hk:kr (.tuple [.str (b.take i),.str (b.drop (i+1)),.raw (.bool true)]) s=true) :
    (sem Tryz.prog).call 179 [.str b,.str [c]] s kr kp=true:=by
  have h1:=qgs hi
  have e0:qfz b c=(i:Int):=by simp[qfz,hi]
  have e1:decide ((i:Int) ≥ 0)=true:=by simp
  have e2:IntKind.i64.wrap ((i:Int)+(([c]:List Nat).length:Int))=((i+1:Nat):Int):=by
    rw[show (i:Int)+(([c]:List Nat).length:Int)=((i+1:Nat):Int) from by simp]
    exact qU (by omega)
  have e3:=Xz (n:=b.length) (m:=b.length) (zC (k:=.i64) (n:=i)) (by omega)
  have e4:=qbd (n:=b.length) (m:=b.length) (zC (k:=.i64) (n:=i+1)) (by omega) (Nat.le_refl _)
  refine qp H 23 qtn rfl rfl ?_
  repeat (first|with_reducible (refine q9 H ?_;constructor)|simp only[rB,rP,rQ,q8,qa,q7,qb,reduceIte,reduceCtorEq,Nat.reduceAdd,Nat.reduceLT,Nat.reduceEqDiff,UInt8.reduceToNat,ql,qr,e0,e1,Y3,e2,qI,Ym,e3,e4,Tryz.results179]|(with_reducible refine qhw H hc ?_)|(with_reducible refine qy H (i:=3) (.take 0 (.take 1 (.take 2 (.take 3 (.take 4 (.take 5 (.take 6 (.take 7 (.take 8 (.take 9 (.take 10 (.take 11 (.done))))))))))))) rfl (by kernel_rfl) ?_))
  rw[Nat.sub_zero,List.drop_zero,List.take_of_length_le (l:=b.drop (i+1)) (by simp)]
  exact hk
theorem qm2 {s:St} (H:Ok TE Tryz.prog (zc pn)) {b:List Nat} {c:Nat} (hc:c < 256) (hi:qJ b c 0=none) {kr kp:AV→St→Bool} (hk:kr (.tuple [.str b,.str [],.raw (.bool false)]) s=true) :
    (sem Tryz.prog).call 179 [.str b,.str [c]] s kr kp=true:=by
  have e0:qfz b c=-1:=by simp[qfz,hi]
  have e1:decide ((-1:Int) ≥ 0)=false:=by decide
  refine qp H 23 qtn rfl rfl ?_
  repeat (first|with_reducible (refine q9 H ?_;constructor)|simp only[rB,rP,rQ,q8,qa,q7,qb,reduceIte,reduceCtorEq,Nat.reduceAdd,Nat.reduceLT,Nat.reduceEqDiff,UInt8.reduceToNat,ql,qr,e0,e1,Y3,Tryz.results179]|(with_reducible refine qhw H hc ?_))
  exact hk
def qwr (b:List Nat) (c:Nat):AV:=match qJ b c 0 with
  | some i=>.tuple [.str (b.take i),.str (b.drop (i+1)),.raw (.bool true)]
  | none=>.tuple [.str b,.str [],.raw (.bool false)]
theorem qt1 {s:St} (H:Ok TE Tryz.prog (zc pn)) {b:List Nat} {c:Nat} (hc:c < 256) (hb:b.length≤1000000) {kr kp:AV→St→Bool} (hk:kr (qwr b c) s=true) :
    (sem Tryz.prog).call 179 [.str b,.str [c]] s kr kp=true:=by
  unfold qwr at hk
  cases h:qJ b c 0 with
  | some i=>rw[h] at hk;exact qkj H hc h hb hk
  | none=>rw[h] at hk;exact qm2 H hc h hk
theorem qdn {b:List Nat} {c i:Nat} (h:qJ b c 0=some i):qwr b c=.tuple [.str (b.take i),.str (b.drop (i+1)),.raw (.bool true)]:=by simp[qwr,h]
theorem qc7 {b:List Nat} {c:Nat} (h:qJ b c 0=none):qwr b c=.tuple [.str b,.str [],.raw (.bool false)]:=by simp[qwr,h]
theorem qy9 {s:St} (H:Ok TE Tryz.prog (zc pn)) {b:List Nat} {c:Nat} (hc:c < 256) (hb:b.length≤1000000) {kr kp:AV→St→Bool} (hk:kr (qwr b c) s=true) :
    (sem Tryz.prog).call 162 [.str b,.str [c]] s kr kp=true:=by
  refine qp H 13 q0n rfl rfl ?_
  cases h:qJ b c 0 with
  | some i =>
    have e:=qdn h
    rw[e] at hk
    repeat (first|with_reducible (refine q9 H ?_;constructor)|simp only[rB,rP,rQ,q8,qa,q7,qb,reduceIte,reduceCtorEq,Nat.reduceAdd,Nat.reduceLT,Nat.reduceEqDiff,UInt8.reduceToNat,e,Tryz.results162]|(with_reducible refine qt1 H hc hb ?_))
    exact hk
  | none =>
    have e:=qc7 h
    rw[e] at hk
    repeat (first|with_reducible (refine q9 H ?_;constructor)|simp only[rB,rP,rQ,q8,qa,q7,qb,reduceIte,reduceCtorEq,Nat.reduceAdd,Nat.reduceLT,Nat.reduceEqDiff,UInt8.reduceToNat,e,Tryz.results162]|(with_reducible refine qt1 H hc hb ?_))
    exact hk
def qfx (l:List Nat):Bool:=Nat.blt 16 l.length||(eqB l [46]||(eqB l [46,46]||qf1 [47,0] l))
def Zy (l:List Nat):Int:=bif eqB l [] then 400 else bif qfx l then 401 else 0
theorem qsw {l:List Nat}:Zy l=if l=[] then 400 else if l.length > 16∨l=[46]∨l=[46,46]∨qf1 [47,0] l=true then 401 else 0:=by
  unfold Zy qfx
  rw[Kr,Kr,Kr]
  by_cases h:l=[]
  · simp[h]
  · simp only[h,decide_false,cond_false,if_false]
    by_cases h1:16 < l.length
    · have:Nat.blt 16 l.length=true:=Nat.blt_eq.mpr h1
      simp[this,h1]
    · have:Nat.blt 16 l.length=false:=by rw[← Bool.not_eq_true,Nat.blt_eq];exact h1
      have h1':¬ l.length > 16:=h1
      simp only[this,h1',Bool.false_or,false_or]
      by_cases h2:l=[46]
      · simp[h2]
      · by_cases h3:l=[46,46]
        · simp[h3]
        · cases qf1 [47,0] l <;> simp[h2,h3]
theorem q70 {r:Tasks} {a:Ac} {dst:Option Tmp} {s:St} {k:Ac→St→Bool} {kp:AV→St→Bool} {b:List Nat} (hb:zi b=true) (hl:b.length≤1000000) :
    YN (zc pn) r (.fn 171 []) [.str b,.str [47,0]] a dst s k kp=zN a dst (.raw (.bool (qf1 [47,0] b))) s k:=by
  refine Xm (qqp (by decide)) ?_
  show (bif true&&Nat.ble b.length 1000000 then some (q8 (qf1 [47,0] b),s) else none)=_
  rw[Nat.ble_eq.mpr hl]
  rfl
theorem VD {s:St} (H:Ok TE Tryz.prog (zc pn)) {b:List Nat} (hb:zi b=true) {kr kp:AV→St→Bool} (hk:kr (.raw (.int .i64 (Zy b))) s=true) :
    (sem Tryz.prog).call 148 [.str b] s kr kp=true:=by
  refine qp H 16 q4h rfl rfl ?_
  rw[qsw] at hk
  by_cases h0:b=[]
  · subst h0
    rw[if_pos rfl] at hk
    repeat (first|with_reducible (refine q9 H ?_;constructor)|simp only[rB,rP,rQ,q8,qa,q7,qb,reduceIte,reduceCtorEq,Nat.reduceAdd,Nat.reduceLT,Nat.reduceEqDiff,UInt8.reduceToNat,qS,Tryz.results148])
    exact hk
  rw[if_neg h0] at hk
  have e0:=Qa h0
  by_cases h1:b.length > 16
  · have e1:decide ((b.length:Int) > 16)=true:=by simp;omega
    rw[if_pos (Or.inl h1)] at hk
    repeat (first|with_reducible (refine q9 H ?_;constructor)|simp only[rB,rP,rQ,q8,qa,q7,qb,reduceIte,reduceCtorEq,Nat.reduceAdd,Nat.reduceLT,Nat.reduceEqDiff,UInt8.reduceToNat,e0,e1,ql,zD,Tryz.results148])
    exact hk
  have e1:decide ((b.length:Int) > 16)=false:=by simp;omega
  by_cases h2:b=[46]
  · subst h2
    rw[if_pos (Or.inr (Or.inl rfl))] at hk
    repeat (first|with_reducible (refine q9 H ?_;constructor)|simp only[rB,rP,rQ,q8,qa,q7,qb,reduceIte,reduceCtorEq,Nat.reduceAdd,Nat.reduceLT,Nat.reduceEqDiff,UInt8.reduceToNat,e0,e1,ql,zD,qS,Tryz.results148])
    exact hk
  have e2:=Qa h2
  by_cases h3:b=[46,46]
  · subst h3
    rw[if_pos (Or.inr (Or.inr (Or.inl rfl)))] at hk
    repeat (first|with_reducible (refine q9 H ?_;constructor)|simp only[rB,rP,rQ,q8,qa,q7,qb,reduceIte,reduceCtorEq,Nat.reduceAdd,Nat.reduceLT,Nat.reduceEqDiff,UInt8.reduceToNat,e0,e1,e2,ql,zD,qS,Tryz.results148])
    exact hk
  have e3:=Qa h3
  have ea:=fun {r a dst s k kp}=>q70 (r:=r) (a:=a) (dst:=dst) (s:=s) (k:=k) (kp:=kp) hb (by omega)
  by_cases h4:qf1 [47,0] b=true
  · rw[if_pos (Or.inr (Or.inr (Or.inr h4)))] at hk
    repeat (first|with_reducible (refine q9 H ?_;constructor)|simp only[rB,rP,rQ,q8,qa,q7,qb,reduceIte,reduceCtorEq,Nat.reduceAdd,Nat.reduceLT,Nat.reduceEqDiff,UInt8.reduceToNat,e0,e1,e2,e3,ea,h4,ql,zD,Tryz.results148])
    exact hk
  · rw[if_neg (by rintro (h|h|h|h) <;> contradiction)] at hk
    have e4:qf1 [47,0] b=false:=by simpa using h4
    repeat (first|with_reducible (refine q9 H ?_;constructor)|simp only[rB,rP,rQ,q8,qa,q7,qb,reduceIte,reduceCtorEq,Nat.reduceAdd,Nat.reduceLT,Nat.reduceEqDiff,UInt8.reduceToNat,e0,e1,e2,e3,ea,e4,ql,zD,Tryz.results148])
    exact hk
def qv:List Nat→List (List Nat)
  | []=>[[]]
  | c::l=>bif Nat.beq c 47 then[]::qv l else match qv l with
    | p::ps=>(c::p)::ps
    | []=>[[c]]
theorem YG {c:Nat}:∀ (b:List Nat) (k:Nat),qJ b c k=(qJ b c 0).map (k + ·)
  | [],k=>(rfl)
  | x::l,k=>by
    simp only[qJ]
    cases Nat.beq x c with
    | true=>simp
    | false =>
      simp only[cond_false]
      rw[YG l (k+1),YG l (0+1),Option.map_map]
      congr 1
      funext i
      simp only[Function.comp]
      omega
theorem VF:∀ {b:List Nat} {i:Nat},qJ b 47 0=some i→qv b=b.take i::qv (b.drop (i+1))
  | [],_,h=>by simp[qJ] at h
  | x::l,i,h=>by
    simp only[qJ] at h
    cases hx:Nat.beq x 47 with
    | true =>
      have:=Nat.eq_of_beq_eq_true hx
      subst this
      rw[hx] at h
      simp only[cond_true,Option.some.injEq] at h
      subst h
      simp[qv]
    | false =>
      rw[hx] at h
      simp only[cond_false] at h
      rw[YG,Option.map_eq_some_iff] at h
      obtain⟨j,hj,rfl⟩:=h
      have ih:=VF (b:=l) hj
      rw[show 0+1+j=j+1 from by omega]
      simp only[qv,hx,cond_false,ih,List.take_succ_cons,List.drop_succ_cons]
theorem KC:∀ {b:List Nat},qJ b 47 0=none→qv b=[b]
  | [],_=>(rfl)
  | x::l,h=>by
    simp only[qJ] at h
    cases hx:Nat.beq x 47 with
    | true=>rw[hx] at h;cases h
    | false =>
      rw[hx] at h
      simp only[cond_false] at h
      rw[YG,Option.map_eq_none_iff] at h
      simp only[qv,hx,cond_false,KC h]
theorem Zz {s:St} (H:Ok TE Tryz.prog (zc pn)) {b:List Nat} {kr kp:AV→St→Bool} (hk:kr (.fn 161 [.ptr s.nx 0]) (s.alloc (.cells [.str b] 9 0))=true) :
    (sem Tryz.prog).call 137 [.str b] s kr kp=true:=by
  refine qp H 4 q07 rfl rfl ?_
  repeat (first|with_reducible (refine q9 H ?_;constructor)|simp only[rB,rP,rQ,q8,qa,q7,qb,reduceIte,reduceCtorEq,Nat.reduceAdd,Nat.reduceLT,Nat.reduceEqDiff,UInt8.reduceToNat,qdh,Tryz.results137])
  exact hk
theorem qkv (H:Ok TE Tryz.prog (zc pn)) {y c:Nat} (I:List (List Nat)→St→Prop) (D:St→Prop)
    (hst:∀ ps s o,I ps s→I ps { s with h:=s.h.set c o })
    (hround:∀ p ps s (kk:AV→St→Bool),I (p::ps) s→(∀ s',s'.h.get c=s.h.get c→I ps s'→kk (q8 true) s'=true)→(∀ s',D s'→kk (q8 false) s'=true)→ZO (sem Tryz.prog) y [.str p] s kk=true)
    {b:List Nat} {s:St} (hb:b.length≤1000000) (hc:s.h.get c=some (.cells [.str b] 9 0)) (hI:I (qv b) s) {kr kp:AV→St→Bool} (h1:∀ s',I [] s'→kr (.tuple []) s'=true) (h2:∀ s',D s'→kr (.tuple []) s'=true) :
    (sem Tryz.prog).call 161 [.yld y,.ptr c 0] s kr kp=true:=by
  refine qp H 21 q0o rfl rfl ?_
  repeat (first|with_reducible (refine q9 H ?_;constructor)|simp only[rB,rP,rQ,q8,qa,q7,qb,reduceIte,reduceCtorEq,Nat.reduceAdd,Nat.reduceLT,Nat.reduceEqDiff,UInt8.reduceToNat])
  refine qB H (fun n t s=>∃ b:List Nat,b.length=n∧n≤1000000∧tg t 0=.yld y∧tg t 1=.ptr c 0∧s.h.get c=some (.cells [.str b] 9 0)∧I (qv b) s)
    ⟨b,rfl,hb,by simp only[rB,rP,rQ,q8,qa,q7,qb,reduceIte,reduceCtorEq,Nat.reduceAdd,Nat.reduceLT,Nat.reduceEqDiff,UInt8.reduceToNat],by simp only[rB,rP,rQ,q8,qa,q7,qb,reduceIte,reduceCtorEq,Nat.reduceAdd,Nat.reduceLT,Nat.reduceEqDiff,UInt8.reduceToNat],hc,hI⟩ ?_
  clear hI hc hb b
  rintro n t s ih ⟨b,hn,hb,ht0,ht1,hc,hI⟩
  cases h:qJ b 47 0 with
  | some i =>
    have hl:=qgs h
    have e:=qdn h
    rw[VF h] at hI
    repeat (first|with_reducible (refine q9 H ?_;constructor)|simp only[rB,rP,rQ,q8,qa,q7,qb,reduceIte,reduceCtorEq,Nat.reduceAdd,Nat.reduceLT,Nat.reduceEqDiff,UInt8.reduceToNat,ht0,ht1,qD,hc,e,qzf]|(with_reducible refine qy9 H (by decide) (by omega) ?_))
    refine hround _ _ _ _ hI (fun s' hs' hI'=>?_) (fun s' hD=>?_)
    · have hc':=hs'.trans hc
      repeat (first|with_reducible (refine q9 H ?_;constructor)|simp only[rB,rP,rQ,q8,qa,q7,qb,reduceIte,reduceCtorEq,Nat.reduceAdd,Nat.reduceLT,Nat.reduceEqDiff,UInt8.reduceToNat,ht0,ht1,qct,hc'])
      exact ih _ _ _ (by simp;omega) ⟨b.drop (i+1),rfl,by simp;omega,by simp only[rB,rP,rQ,q8,qa,q7,qb,reduceIte,reduceCtorEq,Nat.reduceAdd,Nat.reduceLT,Nat.reduceEqDiff,UInt8.reduceToNat,ht0],by simp only[rB,rP,rQ,q8,qa,q7,qb,reduceIte,reduceCtorEq,Nat.reduceAdd,Nat.reduceLT,Nat.reduceEqDiff,UInt8.reduceToNat,ht1],hs_same,hst _ _ _ hI'⟩
    · repeat (first|with_reducible (refine q9 H ?_;constructor)|simp only[rB,rP,rQ,q8,qa,q7,qb,reduceIte,reduceCtorEq,Nat.reduceAdd,Nat.reduceLT,Nat.reduceEqDiff,UInt8.reduceToNat,ht0,ht1,Tryz.results161])
      exact h2 _ hD
  | none =>
    have e:=qc7 h
    rw[KC h] at hI
    repeat (first|with_reducible (refine q9 H ?_;constructor)|simp only[rB,rP,rQ,q8,qa,q7,qb,reduceIte,reduceCtorEq,Nat.reduceAdd,Nat.reduceLT,Nat.reduceEqDiff,UInt8.reduceToNat,ht0,ht1,qD,hc,e,qzf]|(with_reducible refine qy9 H (by decide) (by omega) ?_))
    refine hround _ _ _ _ hI (fun s' hs' hI'=>?_) (fun s' hD=>?_)
    · repeat (first|with_reducible (refine q9 H ?_;constructor)|simp only[rB,rP,rQ,q8,qa,q7,qb,reduceIte,reduceCtorEq,Nat.reduceAdd,Nat.reduceLT,Nat.reduceEqDiff,UInt8.reduceToNat,ht0,ht1,Tryz.results161])
      exact h1 _ hI'
    · repeat (first|with_reducible (refine q9 H ?_;constructor)|simp only[rB,rP,rQ,q8,qa,q7,qb,reduceIte,reduceCtorEq,Nat.reduceAdd,Nat.reduceLT,Nat.reduceEqDiff,UInt8.reduceToNat,ht0,ht1,Tryz.results161])
      exact h2 _ hD
theorem Z0 (H:Ok TE Tryz.prog (zc pn)) {f:Operand} {ps:List Tmp} {asg body:Code} {t:Tr AV} {N:Nat} {ds:List AD} {s:St} {k:AE→Ac→St→Bool} {c:Nat} {b:List Nat}
    (J:List (List Nat)→St→Prop) (D:Code→St→Prop) (nx:Nat) (hnx:s.nx=nx)
    (hf:Ac.eval ⟨t,N,ds⟩ f=.fn 161 [.ptr c 0]) (hb:b.length≤1000000) (hc:s.h.get c=some (.cells [.str b] 9 0)) (hcn:c < nx)
    (hst:∀ l s' i o,(i=c∨i=nx∨i=nx+1)→J l s'→J l { s' with h:=s'.h.set i o })
    (hJ:J (qv b) { s with nx:=nx+2 })
    (hbody:∀ p l s1 t' (k':AV→St→Bool),J (p::l) s1→s1.h.get nx=some (.dfr false)→s1.h.get (nx+1)=some (.loop .ready none 0 t N ps asg body nx)→Z6 t N ps [.str p]=some t' →
      (∀ s2,s2.h.get c=s1.h.get c→s2.h.get nx=some (.dfr false)→s2.h.get (nx+1)=some (.loop .ready none 0 t N ps asg body nx)→J l s2→k' (q8 true) s2=true) →
      (∀ j s2,s2.h.get nx=some (.dfr false)→s2.h.get (nx+1)=some (.loop .done (some j) 0 t N ps asg body nx)→D j s2→k' (q8 false) s2=true) →
      (sem Tryz.prog).code (some (nx+1)) asg ⟨t',N,[]⟩ s1 (asK (sem Tryz.prog) (nx+1) body k')=true)
    (hset:∀ p,∃ t',Z6 t N ps [.str p]=some t')
    (hD:∀ j s' o,D j s'→D j { s' with h:=s'.h.set (nx+1) o })
    (h1:∀ s2,s2.h.get nx=some (.dfr false)→J [] s2→k .normal ⟨t,N,.mark nx::ds⟩ s2=true)
    (h2:∀ j s2,s2.h.get nx=some (.dfr false)→D j s2→(sem Tryz.prog).code none j ⟨t,N,.mark nx::ds⟩ s2 k=true) :
    (sem Tryz.prog).code none (.rangeFunc f ps.toArray asg body) ⟨t,N,ds⟩ s k=true:=by
  subst hnx
  refine qut H _ _ hf ?_
  have hn0:s.nx≠s.nx+1:=by omega
  have hn1:c≠s.nx:=by omega
  have hn2:c≠s.nx+1:=by omega
  refine qkv (c:=c) H (fun l s'=>J l s'∧s'.h.get s.nx=some (.dfr false)∧s'.h.get (s.nx+1)=some (.loop .ready none 0 t N ps asg body s.nx))
    (fun s'=>∃ j,D j s'∧s'.h.get s.nx=some (.dfr false)∧s'.h.get (s.nx+1)=some (.loop .done (some j) 0 t N ps asg body s.nx)) ?_ ?_ hb ?_ ⟨?_,?_,?_⟩ ?_ ?_
  · rintro l s' o ⟨g1,g2,g3⟩
    exact⟨hst _ _ _ _ (Or.inl rfl) g1,by rw[qe (Ne.symm hn1)];exact g2,by rw[qe (Ne.symm hn2)];exact g3⟩
  · rintro p l s' kk ⟨g1,g2,g3⟩ k1 k2
    obtain⟨t',ht'⟩:=hset p
    refine qwj g3 ht' (hbody p l s' t' kk g1 g2 g3 ht' (fun s2 q1 q2 q3 q4=>k1 s2 q1 ⟨q4,q2,q3⟩) (fun j s2 q2 q3 q4=>k2 s2 ⟨j,q4,q2,q3⟩))
  · show ((s.h.set s.nx (.dfr false)).set (s.nx+1) _).get c=_
    rw[qe hn2,qe hn1]
    exact hc
  · exact hst _ { s with h:=s.h.set s.nx (.dfr false),nx:=s.nx+2 } _ _ (Or.inr (Or.inr rfl)) (hst _ { s with nx:=s.nx+2 } _ _ (Or.inr (Or.inl rfl)) hJ)
  · show ((s.h.set s.nx (.dfr false)).set (s.nx+1) _).get s.nx=_
    rw[qe hn0,hs_same]
  · exact hs_same
  · rintro s' ⟨g1,g2,g3⟩
    rw[qci g3]
    exact h1 _ (by show (s'.h.set (s.nx+1) _).get s.nx=_;rw[qe hn0];exact g2) (hst _ _ _ _ (Or.inr (Or.inr rfl)) g1)
  · rintro s' ⟨j,g1,g2,g3⟩
    rw[qhm g3]
    exact h2 _ _ (by show (s'.h.set (s.nx+1) _).get s.nx=_;rw[qe hn0];exact g2) (hD _ _ _ g1)
abbrev SlRep (F:Nat→Prop) (s:St) (V:AV) (names:List (List Nat)):Prop:=SlR 9 F s V names
theorem SlRep.set {F:Nat→Prop} {s:St} {V:AV} {names:List (List Nat)} (h:SlRep F s V names) {i:Nat} (hi:¬ F i) (o:AO):SlRep F { s with h:=s.h.set i o } V names:=by
  rcases h with h|⟨id,cap,cs,h1,h2,h3,h4,h5⟩
  · exact Or.inl h
  · exact Or.inr ⟨id,cap,cs,h1,h2,h3,by show (s.h.set i o).get id=_;rw[qe (i:=id) (j:=i) (fun hh=>hi (hh ▸ h2))];exact h4,h5⟩
theorem SlRep.cells1 {F:Nat→Prop} {s:St} {V:AV} {names:List (List Nat)} (h:SlRep F s V names):V.cells=[V]∧V.one=true:=by
  rcases h with⟨rfl,_⟩|⟨id,cap,cs,rfl,_⟩ <;> exact⟨rfl,rfl⟩
theorem SlRep.alloc {F:Nat→Prop} {s:St} {V:AV} {names:List (List Nat)} (h:SlRep F s V names) (o:AO):SlRep F (s.alloc o) V names:=by
  rcases h with h|⟨id,cap,cs,h1,h2,h3,h4,h5⟩
  · exact Or.inl h
  · exact Or.inr ⟨id,cap,cs,h1,h2,Nat.lt_succ_of_lt h3,by rw[zg (by omega)];exact h4,h5⟩
theorem qcj:∀ {n:Nat} {l:List AV},n≤l.length→ZJ n l=some (l.take n)
  | 0,_,_=>(rfl)
  | _+1,[],h=>by simp at h
  | n+1,x::l,h=>by simp only[ZJ,qcj (n:=n) (l:=l) (by simpa using h),List.take_succ_cons]
theorem ZC {n:Nat} {l:List AV} (h:n≤l.length):ZF 0 n l=some (l.take n):=by simp only[ZF,ZB,qcj h]
theorem qgd:∀ {l:List AV} {n:Nat} {v:AV},n < l.length→JW l n [v]=some (l.take n++v::l.drop (n+1))
  | [],_,_,h=>by simp at h
  | x::l,0,v,_=>by cases l <;> simp[JW]
  | x::l,n+1,v,h=>by simp only[JW,qgd (l:=l) (n:=n) (v:=v) (by simpa using h),List.take_succ_cons,List.drop_succ_cons,List.cons_append]
theorem qim {s:St} {V X:AV}:zO TE s [36,36] [V,X]=(match K5 X with
  | none=>none
  | some n =>
    match zI s 1 n X with
    | none=>none
    | some new=>bif Nat.beq new.length (n * 1)&&new.all AV.one then ZZ s 9 { desc:=.string,size:=1,bytes:=16,zero:=some (.string ⟨#[]⟩) } V n new else none):=by kernel_rfl
theorem qya {F:Nat→Prop} {q:Nat} {s:St} {V:AV} {names:List (List Nat)} {p:List Nat} (h:SlRep F s V names) (hq:s.h.get q=some (.cells [.str p] 9 0)) (hm:F s.nx) (hn:names.length≤1048575) :
    ∃ V' s1,zO TE s [36,36] [V,.slice q 0 1 0 1 true]=some (V',s1)∧SlRep F s1 V' (names++[p])∧s.nx≤s1.nx∧∀ i,¬ F i→s1.h.get i=s.h.get i:=by
  have e0:zI s 1 1 (.slice q 0 1 0 1 true)=some [.str p]:=by simp[zI,Zv hq,ZF,ZB,ZJ]
  rw[qim]
  simp only[K5,e0]
  show ∃ V' s1,ZZ s 9 { desc:=.string,size:=1,bytes:=16,zero:=some (.string ⟨#[]⟩) } V 1 [.str p]=some (V',s1)∧_
  rcases h with⟨rfl,rfl⟩|⟨id,cap,cs,rfl,h2,h3,h4,h5,h6,h7⟩
  · refine⟨.slice s.nx 0 1 0 1 false,s.alloc (.cells [.str p] 9 2),rfl,Or.inr ⟨s.nx,1,[.str p],rfl,hm,Nat.lt_succ_self _,qu,rfl,Nat.le_refl _,rfl⟩,Nat.le_succ _,fun i hi=>zg (fun hh=>hi (hh ▸ hm))⟩
  · by_cases hcap:names.length+1≤cap
    · refine⟨.slice id 0 (names.length+1) 0 cap false,{ s with h:=s.h.set id (.cells (cs.take names.length++.str p::cs.drop (names.length+1)) 9 2) },?_,Or.inr ⟨id,cap,_,by simp,h2,h3,hs_same,?_,by simp;omega,?_⟩,Nat.le_refl _,fun i hi=>by show (s.h.set id _).get i=_;rw[qe (i:=i) (j:=id) (fun hh=>hi (hh ▸ h2))]⟩
      · simp only[ZZ,Zv h4,Nat.ble_eq.mpr hcap,cond_true,zj,List.all_cons,qb1,List.all_nil,Bool.and_self,Nat.mul_one,Nat.zero_add,qgd (l:=cs) (n:=names.length) (v:=.str p) (by omega)]
      · simp;omega
      · rw[List.length_append,List.length_singleton,h7,List.take_append,List.take_of_length_le (by simp)]
        simp
    · have hce:cap=names.length:=by omega
      have e1:Nat.ble (names.length+1) cap=false:=by
        rw[← Bool.not_eq_true,Nat.ble_eq];omega
      have e2:Nat.ble ((names.length+1) * 16) 134217728=true:=Nat.ble_eq.mpr (by omega)
      have e3:Nat.ble (names.length+1) 1048576=true:=Nat.ble_eq.mpr (by omega)
      refine⟨.slice s.nx 0 (names.length+1) 0 (names.length+1) false,{ h:=(s.h.del id).set s.nx (.cells (cs.take names.length++[.str p]) 9 2),nx:=s.nx+1 },?_,Or.inr ⟨s.nx,names.length+1,cs.take names.length++[.str p],by simp,hm,Nat.lt_succ_self _,hs_same,?_,by simp,?_⟩,Nat.le_succ _,fun i hi=>?_⟩
      · simp only[ZZ,Zv h4,e1,cond_false,Nat.mul_one,ZC (l:=cs) (n:=names.length) (by omega),e2,e3,Bool.and_self,cond_true]
        rfl
      · simp;omega
      · rw[h7,List.take_of_length_le (by simp)];simp
      · show ((s.h.del id).set s.nx _).get i=_
        rw[qe (i:=i) (j:=s.nx) (fun hh=>hi (hh ▸ hm)),Tr.get_del,if_neg (fun hh:i=id=>hi (hh ▸ h2))]
theorem Jq {F:Nat→Prop} {q:Nat} {s:St} {V:AV} {names:List (List Nat)} {p:List Nat} {a:Ac} {dst:Option Tmp} {k:Ac→St→Bool} (h:SlRep F s V names) (hq:s.h.get q=some (.cells [.str p] 9 0)) (hm:F s.nx) (hn:names.length≤1048575)
    (hk:∀ V' s1,SlRep F s1 V' (names++[p])→s.nx≤s1.nx→(∀ i,¬ F i→s1.h.get i=s.h.get i)→zN a dst V' s1 k=true):qlj (zO TE s [36,36] [V,.slice q 0 1 0 1 true]) a dst k=true:=by
  obtain⟨V',s1,h1,h2,h3,h4⟩:=qya h hq hm hn
  rw[h1]
  exact hk _ _ h2 h3 h4
theorem zG {t:Tr AV} {n p:Nat} {v:AV} (h:p < n):Z6 t n [p] [v]=some (t.set p v):=by
  have:Nat.blt p n=true:=Nat.blt_eq.mpr h
  simp[Z6,this]
-- light
theorem qwm:zt TE 36=some (.raw (.slice none 0 0)):=by kernel_rfl
theorem qrg:zt TE 9=some (.str []):=by kernel_rfl
theorem qq6:zt TE 3=some (.raw (.int .i64 0)):=by kernel_rfl
theorem qk8:zt TE 57=some (.raw (.int .i64 0)):=by kernel_rfl
theorem ql0:zt TE 4=some (.raw (.bool false)):=by kernel_rfl
theorem qai {s:St}:Z5 TE s 36=some (.ptr s.nx 0,s.alloc (.cells [.raw (.slice none 0 0)] 36 0)):=by simp only[Z5,qwm];rfl
theorem XZ {s:St}:Z5 TE s 9=some (.ptr s.nx 0,s.alloc (.cells [.str []] 9 0)):=by simp only[Z5,qrg];rfl
theorem qvr {s:St}:Z5 TE s 3=some (.ptr s.nx 0,s.alloc (.cells [.raw (.int .i64 0)] 3 0)):=by simp only[Z5,qq6];rfl
theorem Yb {s:St}:Z5 TE s 57=some (.ptr s.nx 0,s.alloc (.cells [.raw (.int .i64 0)] 57 0)):=by simp only[Z5,qk8];rfl
theorem qis {s:St}:Z5 TE s 4=some (.ptr s.nx 0,s.alloc (.cells [.raw (.bool false)] 4 0)):=by simp only[Z5,ql0];rfl
theorem KX {s:St} {p:List Nat}:zq TE s 36 1 [(0,.str p)]=some (.slice s.nx 0 1 0 1 true,s.alloc (.cells [.str p] 9 0)):=by kernel_rfl
def qq (b:List Nat):List (List Nat):=match b with
  | []=>[]
  | _::_=>qv b
theorem zX {b:List Nat} (h:b≠[]):qq b=qv b:=by cases b with|nil=>exact absurd rfl h|cons _ _=>rfl
theorem qpt (H:Ok TE Tryz.prog (zc pn)) {kr kp:AV→St→Bool} (hk:∀ s',kr (.raw (.slice none 0 0)) s'=true):(sem Tryz.prog).call 109 [.str []] st0 kr kp=true:=by
  refine qp H 16 quc rfl rfl ?_
  repeat (first|with_reducible (refine q9 H ?_;constructor)|simp only[rB,rQ,q8,qa,q7,qb,reduceIte,reduceCtorEq,Nat.reduceAdd,Nat.reduceLT,Nat.reduceEqDiff,UInt8.reduceToNat,qai,qS,QJ,Tryz.results109])
  exact hk _
theorem qyn (H:Ok TE Tryz.prog (zc pn)) {b:List Nat} (hb:b.length≤1000) (hp:(qv b).length≤60000) {kr kp:AV→St→Bool} (hk:∀ V s',SlRep (fun _=>True) s' V (qq b)→kr V s'=true) :
    (sem Tryz.prog).call 109 [.str b] st0 kr kp=true:=by
  refine qp H 16 quc rfl rfl ?_
  by_cases h0:b=[]
  · subst h0
    repeat (first|with_reducible (refine q9 H ?_;constructor)|simp only[rB,rQ,q8,qa,q7,qb,reduceIte,reduceCtorEq,Nat.reduceAdd,Nat.reduceLT,Nat.reduceEqDiff,UInt8.reduceToNat,qai,qS,QJ,Tryz.results109])
    exact hk _ _ (Or.inl ⟨rfl,rfl⟩)
  · rw[zX h0] at hk
    have e0:=Qa h0
    repeat (first|with_reducible (refine q9 H ?_;constructor)|simp only[rB,rQ,q8,qa,q7,qb,reduceIte,reduceCtorEq,Nat.reduceAdd,Nat.reduceLT,Nat.reduceEqDiff,UInt8.reduceToNat,qai,e0]|(with_reducible refine Zz H ?_))
    refine Z0 H (c:=1) (b:=b) (fun l s=>∃ dn V,dn++l=qv b∧s.h.get 0=some (.cells [V] 36 0)∧SlRep (4≤·) s V dn∧4≤s.nx) (fun _ _=>False) 2 rfl (by simp only[rB,rQ,q8,qa,q7,qb,reduceIte,reduceCtorEq,Nat.reduceAdd,Nat.reduceLT,Nat.reduceEqDiff,UInt8.reduceToNat]) (by omega) rfl (by decide) ?_ ?_ ?_ (fun p=>⟨_,zG (by decide)⟩) (fun _ _ _ h=>h) ?_ (fun _ _ _ h=>h.elim)
    · rintro l s' i o hi ⟨dn,V,h1,h2,h3,h4⟩
      have hi':i=1∨i=2∨i=3:=hi
      exact⟨dn,V,h1,by show (s'.h.set i o).get 0=_;rw[qe (by omega)];exact h2,h3.set (by show ¬ (4≤i);omega) o,h4⟩
    · exact⟨[],.raw (.slice none 0 0),rfl,rfl,Or.inl ⟨rfl,rfl⟩,Nat.le_refl _⟩
    · rintro p l s1 t' k' ⟨dn,V,h1,h2,h3,h4⟩ g2 g3 ht' k1 k2
      rw[zG (by decide)] at ht'
      cases ht'
      have hlen:dn.length+(p::l).length=(qv b).length:=by rw[← h1,List.length_append]
      repeat (first|with_reducible (refine q9 H ?_;constructor)|simp only[rB,rQ,q8,qa,q7,qb,reduceIte,reduceCtorEq,Nat.reduceAdd,Nat.reduceLT,Nat.reduceEqDiff,UInt8.reduceToNat])
      rw[Zg g3]
      repeat (first|with_reducible (refine q9 H ?_;constructor)|simp only[rB,rQ,q8,qa,q7,qb,reduceIte,reduceCtorEq,Nat.reduceAdd,Nat.reduceLT,Nat.reduceEqDiff,UInt8.reduceToNat,QJ,h2,KX])
      refine Jq (F:=(4≤·)) (p:=p) (names:=dn) ((h3.set (by decide) _).alloc _) qu (by show 4≤s1.nx+1;omega) (by simp at hlen;omega) ?_
      intro V' s2 hr hn hfr
      have hn':s1.nx+1≤s2.nx:=hn
      have f0:=(hfr 0 (by decide)).trans ((zg (by show 0≠s1.nx;omega)).trans ((qe (by decide)).trans h2))
      have f1:=(hfr 1 (by decide)).trans ((zg (by show 1≠s1.nx;omega)).trans (qe (by decide)))
      have f2:=(hfr 2 (by decide)).trans ((zg (by show 2≠s1.nx;omega)).trans ((qe (by decide)).trans g2))
      have f3:=(hfr 3 (by decide)).trans ((zg (by show 3≠s1.nx;omega)).trans hs_same)
      obtain⟨c1,c2⟩:=hr.cells1
      repeat (first|with_reducible (refine q9 H ?_;constructor)|simp only[rB,rQ,q8,qa,q7,qb,reduceIte,reduceCtorEq,Nat.reduceAdd,Nat.reduceLT,Nat.reduceEqDiff,UInt8.reduceToNat,KU _ _ _ _ c1 c2,f0])
      rw[qZ ((qe (by decide)).trans f3)]
      refine k1 _ ?_ ?_ hs_same ⟨dn++[p],V',?_,?_,?_,?_⟩
      · exact (qe (by decide)).trans ((qe (by decide)).trans f1)
      · exact (qe (by decide)).trans ((qe (by decide)).trans f2)
      · rw[List.append_assoc];exact h1
      · exact (qe (by decide)).trans hs_same
      · exact (hr.set (by decide) _).set (by decide) _
      · show 4≤s2.nx;omega
    · rintro s2 g2 ⟨dn,V,h1,h2,h3,h4⟩
      rw[List.append_nil] at h1
      subst h1
      repeat (first|with_reducible (refine q9 H ?_;constructor)|simp only[rB,rQ,q8,qa,q7,qb,reduceIte,reduceCtorEq,Nat.reduceAdd,Nat.reduceLT,Nat.reduceEqDiff,UInt8.reduceToNat,QJ,h2,qP g2,Tryz.results109])
      refine hk _ _ ?_
      rcases h3 with h|⟨id,cap,cs,q1,q2,q3,q4,q5⟩
      · exact Or.inl h
      · exact Or.inr ⟨id,cap,cs,q1,trivial,q3,(qe (by have q2:4≤id:=q2;omega)).trans q4,q5⟩
theorem Y8:∀ (b:List Nat),(qv b).length≤b.length+1
  | []=>Nat.le_refl _
  | c::l=>by
    have ih:=Y8 l
    simp only[qv]
    cases Nat.beq c 47 with
    | true=>simp;omega
    | false =>
      simp only[cond_false]
      split
      · rename_i h;rw[h] at ih;simp at ih ⊢;omega
      · simp
theorem Yk:∀ (b:List Nat),qv b≠[]
  | []=>by simp[qv]
  | c::l=>by
    simp only[qv]
    cases Nat.beq c 47 with
    | true=>simp
    | false =>
      simp only[cond_false]
      split <;> simp
theorem ZQ {b p:List Nat} (_:zi b=true) (_:p∈qv b):zi p=true:=rfl
def qxh:List (List Nat)→Bool
  | []=>true
  | p::l=>bif eqB p [] then false else bif qfx p then false else qxh l
theorem nameB_zero {p:List Nat}:Zy p=0↔eqB p []=false∧qfx p=false:=by
  unfold Zy
  cases eqB p [] <;> cases qfx p <;> simp
theorem allB_iff:∀ {l:List (List Nat)},qxh l=true↔∀ p∈l,Zy p=0
  | []=>by simp[qxh]
  | p::l=>by
    have ih:=allB_iff (l:=l)
    simp only[qxh,List.mem_cons,forall_eq_or_imp,nameB_zero (p:=p),← ih]
    cases eqB p [] <;> cases qfx p <;> simp
def Zt (b:List Nat):Bool:=bif eqB b [] then true else (qxh (qv b)&&(Nat.ble (qv b).length 8&&Nat.ble b.length 140))
theorem qur (H:Ok TE Tryz.prog (zc pn)) {b:List Nat} (hb:b.length≤1000) (ha:zi b=true) {kr kp:AV→St→Bool} (hk:∀ s',kr (.raw (.bool (Zt b))) s'=true) :
    (sem Tryz.prog).call 147 [.str b] st0 kr kp=true:=by
  refine qp H 22 q31 rfl rfl ?_
  have hlen:=Y8 b
  by_cases h0:b=[]
  · subst h0
    repeat (first|with_reducible (refine q9 H ?_;constructor)|simp only[rB,rQ,q8,qa,q7,qb,reduceIte,reduceCtorEq,Nat.reduceAdd,Nat.reduceLT,Nat.reduceEqDiff,UInt8.reduceToNat,qis,qS,qtb,qts,Tryz.results147])
    exact hk _
  · have e0:=Qa h0
    repeat (first|with_reducible (refine q9 H ?_;constructor)|simp only[rB,rQ,q8,qa,q7,qb,reduceIte,reduceCtorEq,Nat.reduceAdd,Nat.reduceLT,Nat.reduceEqDiff,UInt8.reduceToNat,qis,qvr,e0,qlf]|(with_reducible refine Zz H ?_))
    refine Z0 H (c:=2) (b:=b) (fun l s=>∃ dn,dn++l=qv b∧(∀ p∈dn,Zy p=0)∧s.h.get 0=some (.cells [.raw (.bool false)] 4 0)∧s.h.get 1=some (.cells [.raw (.int .i64 (dn.length:Int))] 3 0))
      (fun j s=>j=.ret∧s.h.get 0=some (.cells [.raw (.bool false)] 4 0)∧∃ p∈qv b,Zy p≠0) 3 rfl (by simp only[rB,rQ,q8,qa,q7,qb,reduceIte,reduceCtorEq,Nat.reduceAdd,Nat.reduceLT,Nat.reduceEqDiff,UInt8.reduceToNat]) (by omega) rfl (by decide) ?_ ?_ ?_ (fun p=>⟨_,zG (by decide)⟩) ?_ ?_ ?_
    · rintro l s' i o hi ⟨dn,h1,h2,h3,h4⟩
      exact⟨dn,h1,h2,(qe (by omega)).trans h3,(qe (by omega)).trans h4⟩
    · exact⟨[],rfl,by simp,rfl,rfl⟩
    · rintro p l s1 t' k' ⟨dn,h1,h2,h3,h4⟩ g2 g3 ht' k1 k2
      rw[zG (by decide)] at ht'
      cases ht'
      have hl:dn.length+(p::l).length=(qv b).length:=by rw[← h1,List.length_append]
      have hp:p∈qv b:=by rw[← h1];simp
      have hpa:=ZQ ha hp
      have ew:IntKind.i64.wrap ((dn.length:Int)+1)=((dn.length+1:Nat):Int):=by
        rw[show (dn.length:Int)+1=((dn.length+1:Nat):Int) from by simp]
        exact qU (by simp at hl;omega)
      by_cases hz:Zy p=0
      · have ez:(Zy p != 0)=false:=by rw[hz];rfl
        repeat (first|with_reducible (refine q9 H ?_;constructor)|simp only[rB,rQ,q8,qa,q7,qb,reduceIte,reduceCtorEq,Nat.reduceAdd,Nat.reduceLT,Nat.reduceEqDiff,UInt8.reduceToNat])
        rw[Zg g3]
        repeat (first|with_reducible (refine q9 H ?_;constructor)|simp only[rB,rQ,q8,qa,q7,qb,reduceIte,reduceCtorEq,Nat.reduceAdd,Nat.reduceLT,Nat.reduceEqDiff,UInt8.reduceToNat,qK,qlf,h4,qI,ew,qH,ez]|(with_reducible refine VD H hpa ?_))
        rw[qZ ((qe (by decide)).trans hs_same)]
        refine k1 _ ?_ ?_ hs_same ⟨dn++[p],?_,?_,?_,?_⟩
        · exact (qe (by decide)).trans ((qe (by decide)).trans (qe (by decide)))
        · exact (qe (by decide)).trans ((qe (by decide)).trans ((qe (by decide)).trans g2))
        · rw[List.append_assoc];exact h1
        · intro q hq
          rcases List.mem_append.1 hq with hq|hq
          · exact h2 q hq
          · rw[List.mem_singleton] at hq;rw[hq];exact hz
        · exact (qe (by decide)).trans ((qe (by decide)).trans ((qe (by decide)).trans h3))
        · rw[List.length_append,List.length_singleton];exact (qe (by decide)).trans hs_same
      · have ez:(Zy p != 0)=true:=by simpa using hz
        repeat (first|with_reducible (refine q9 H ?_;constructor)|simp only[rB,rQ,q8,qa,q7,qb,reduceIte,reduceCtorEq,Nat.reduceAdd,Nat.reduceLT,Nat.reduceEqDiff,UInt8.reduceToNat])
        rw[Zg g3]
        repeat (first|with_reducible (refine q9 H ?_;constructor)|simp only[rB,rQ,q8,qa,q7,qb,reduceIte,reduceCtorEq,Nat.reduceAdd,Nat.reduceLT,Nat.reduceEqDiff,UInt8.reduceToNat,qK,qlf,h4,qI,ew,qH,ez,qtb,h3]|(with_reducible refine VD H hpa ?_))
        rw[XA ((qe (by decide)).trans ((qe (by decide)).trans hs_same))]
        refine k2 _ _ ?_ hs_same ⟨rfl,?_,p,hp,hz⟩
        · exact (qe (by decide)).trans ((qe (by decide)).trans ((qe (by decide)).trans ((qe (by decide)).trans g2)))
        · exact (qe (by decide)).trans hs_same
    · rintro j s' o ⟨h1,h2,h3⟩
      exact⟨h1,(qe (by decide)).trans h2,h3⟩
    · rintro s2 g2 ⟨dn,h1,h2,h3,h4⟩
      rw[List.append_nil] at h1
      subst h1
      have hall:qxh (qv b)=true:=allB_iff.2 h2
      have hdec:∀ x y:Nat,Nat.ble x y=decide (x≤y):=fun x y=>by rw[Bool.eq_iff_iff,Nat.ble_eq,decide_eq_true_eq]
      have hcl:Zt b=(decide ((qv b).length≤8)&&decide (b.length≤140)):=by
        unfold Zt;rw[hall,e0,hdec,hdec];rfl
      rw[hcl] at hk
      by_cases q1:(qv b).length≤8
      · have e1:decide (((qv b).length:Int)≤8)=true:=by simp;omega
        rw[decide_eq_true q1,Bool.true_and] at hk
        by_cases q2:b.length≤140
        · have e2:decide ((b.length:Int)≤140)=true:=by simp;omega
          rw[decide_eq_true q2] at hk
          repeat (first|with_reducible (refine q9 H ?_;constructor)|simp only[rB,rQ,q8,qa,q7,qb,reduceIte,reduceCtorEq,Nat.reduceAdd,Nat.reduceLT,Nat.reduceEqDiff,UInt8.reduceToNat,qK,qts,qtb,h3,h4,ql,YL,e1,e2])
          rw[qP ((qe (by decide)).trans g2)]
          repeat (first|with_reducible (refine q9 H ?_;constructor)|simp only[rB,rQ,q8,qa,q7,qb,reduceIte,reduceCtorEq,Nat.reduceAdd,Nat.reduceLT,Nat.reduceEqDiff,UInt8.reduceToNat,qK,qts,qtb,h3,h4,ql,YL,e1,e2,Tryz.results147])
          exact hk _
        · have e2:decide ((b.length:Int)≤140)=false:=by simp;omega
          rw[decide_eq_false q2] at hk
          repeat (first|with_reducible (refine q9 H ?_;constructor)|simp only[rB,rQ,q8,qa,q7,qb,reduceIte,reduceCtorEq,Nat.reduceAdd,Nat.reduceLT,Nat.reduceEqDiff,UInt8.reduceToNat,qK,qts,qtb,h3,h4,ql,YL,e1,e2])
          rw[qP ((qe (by decide)).trans g2)]
          repeat (first|with_reducible (refine q9 H ?_;constructor)|simp only[rB,rQ,q8,qa,q7,qb,reduceIte,reduceCtorEq,Nat.reduceAdd,Nat.reduceLT,Nat.reduceEqDiff,UInt8.reduceToNat,qK,qts,qtb,h3,h4,ql,YL,e1,e2,Tryz.results147])
          exact hk _
      · have e1:decide (((qv b).length:Int)≤8)=false:=by simp;omega
        rw[decide_eq_false q1,Bool.false_and] at hk
        repeat (first|with_reducible (refine q9 H ?_;constructor)|simp only[rB,rQ,q8,qa,q7,qb,reduceIte,reduceCtorEq,Nat.reduceAdd,Nat.reduceLT,Nat.reduceEqDiff,UInt8.reduceToNat,qK,qts,qtb,h3,h4,ql,YL,e1])
        rw[qP ((qe (by decide)).trans g2)]
        repeat (first|with_reducible (refine q9 H ?_;constructor)|simp only[rB,rQ,q8,qa,q7,qb,reduceIte,reduceCtorEq,Nat.reduceAdd,Nat.reduceLT,Nat.reduceEqDiff,UInt8.reduceToNat,qK,qts,qtb,h3,h4,ql,YL,e1,Tryz.results147])
        exact hk _
    · rintro j s2 g2 ⟨rfl,h2,p,hp,hz⟩
      have hcl:Zt b=false:=by
        unfold Zt
        have:qxh (qv b)=false:=by
          rw[← Bool.not_eq_true,allB_iff]
          exact fun hh=>hz (hh p hp)
        rw[this,e0];rfl
      rw[hcl] at hk
      repeat (first|with_reducible (refine q9 H ?_;constructor)|simp only[rB,rQ,q8,qa,q7,qb,reduceIte,reduceCtorEq,Nat.reduceAdd,Nat.reduceLT,Nat.reduceEqDiff,UInt8.reduceToNat,qts,h2,qP g2,Tryz.results147])
      exact hk _
def qex (args:List AV) (s:St):Option (AV × St):=match args with
  | [.str b]=>bif Nat.ble b.length 1000 then some (JA 9 (qq b) s) else none
  | _=>none
def qch (args:List AV) (s:St):Option (AV × St):=match args with
  | [.str b]=>bif Nat.ble b.length 1000&&zi b then some (q8 (Zt b),s) else none
  | _=>none
def pr1:Prims:=((zc pn).add 109 qex).add 147 qch
theorem ql1 (H:Ok TE Tryz.prog (zc pn)) {args:List AV} {s s':St} {v:AV} {w0 w:World} {E:Em} {Args:List Value} (h:qex args s=some (v,s')) (hv:VRels E args Args) (hs:Sim w0 E s w) :
    Qy Tryz.prog 109∧CallsIn (FW none) 0 Tryz.prog 109 Args.toArray w fun en w'=>∃ V E',en=.returned V∧E.le E'∧VRel E' v V∧Sim w0 E' s' w':=by
  unfold qex at h
  split at h
  · rename_i b
    cases hb:Nat.ble b.length 1000 with
    | false=>rw[hb] at h;cases h
    | true =>
      rw[hb] at h
      simp only[cond_true,Option.some.injEq] at h
      have hb:=Nat.le_of_ble_eq_true hb
      by_cases h0:b=[]
      · subst h0
        cases h
        exact Yo rfl rfl (fun kr kp hk=>qpt H hk) hv hs
      · have hne:qq b≠[]:=by rw[zX h0];exact Yk b
        have hl:=Y8 b
        have:=qat (ty:=9) (s:=s) hne rfl (fun kr kp hk=>qyn H hb (by omega) hk) hv hs
        rw[h] at this
        exact this
  · cases h
theorem qj8 (H:Ok TE Tryz.prog (zc pn)) {args:List AV} {s s':St} {v:AV} {w0 w:World} {E:Em} {Args:List Value} (h:qch args s=some (v,s')) (hv:VRels E args Args) (hs:Sim w0 E s w) :
    Qy Tryz.prog 147∧CallsIn (FW none) 0 Tryz.prog 147 Args.toArray w fun en w'=>∃ V E',en=.returned V∧E.le E'∧VRel E' v V∧Sim w0 E' s' w':=by
  unfold qch at h
  split at h
  · rename_i b
    cases hb:(Nat.ble b.length 1000&&zi b) with
    | false=>rw[hb] at h;cases h
    | true =>
      rw[hb] at h
      simp only[cond_true,Option.some.injEq,Prod.mk.injEq] at h
      obtain⟨rfl,rfl⟩:=h
      rw[Bool.and_eq_true] at hb
      exact Yo rfl rfl (fun kr kp hk=>qur H (Nat.le_of_ble_eq_true hb.1) hb.2 hk) hv hs
  · cases h
theorem ok1 (H:Ok TE Tryz.prog (zc pn)):Ok TE Tryz.prog pr1:=⟨H.prog,J0 (J0 H.prims (fun h hv hs=>ql1 H h hv hs)) (fun h hv hs=>qj8 H h hv hs)⟩
theorem pe1 {g:Nat} {args:List AV} {s:St} (h:g≠220):pr1.ext g args s=none:=qqp h
theorem pf1 {g:Nat} {args:List AV} {s:St} (h1:g≠149) (h2:g≠136) (h3:g≠133) (h4:g≠171) (h5:g≠109) (h6:g≠147):pr1.fn g args s=none:=by
  unfold pr1
  rw[Qx h6,Qx h5]
  exact q25 h1 h2 h3 h4
section
variable {r:Tasks} {a:Ac} {dst:Option Tmp} {s:St} {k:Ac→St→Bool} {kp:AV→St→Bool}
theorem qp7 {b:List Nat} (hb:b.length≤1000) (ha:zi b=true):YN pr1 r (.fn 147 []) [.str b] a dst s k kp=zN a dst (.raw (.bool (Zt b))) s k:=by
  refine Xm (pe1 (by decide)) ?_
  unfold pr1
  rw[Jk]
  simp only[List.append_nil,qch,Nat.ble_eq.mpr hb,ha,Bool.and_self,cond_true]
  rfl
theorem qsy {b:List Nat} (hb:b.length≤1000):YN pr1 r (.fn 109 []) [.str b] a dst s k kp=zN a dst (JA 9 (qq b) s).1 (JA 9 (qq b) s).2 k:=by
  refine Xm (pe1 (by decide)) ?_
  unfold pr1
  rw[Qx (by decide),Jk]
  simp only[List.append_nil,qex,Nat.ble_eq.mpr hb,cond_true]
theorem qd6:∀ (l:List (List Nat)),qgn (l.map .str)=some l
  | []=>(rfl)
  | x::l=>by simp only[List.map_cons,qgn,qd6 l]
theorem qw6 {F:Nat→Prop} {V:AV} {names:List (List Nat)} (h:SlRep F s V names):WO s V=some names:=by
  rcases h with⟨rfl,rfl⟩|⟨id,cap,cs,rfl,h2,h3,h4,h5,h6,h7⟩
  · rfl
  · simp only[WO,Zv h4,ZC (l:=cs) (n:=names.length) (by omega),h7,qd6]
theorem qee:∀ {l:List (List Nat)},(∀ p∈l,p.length≤1000)→(qo [47] l).length≤l.length * 1001
  | [],_=>by simp[qo]
  | [x],h=>by have:=h x (by simp);simp[qo];omega
  | x::y::l,h=>by
    have h1:=h x (by simp)
    have h2:=qee (l:=y::l) (fun p hp=>h p (List.mem_cons_of_mem _ hp))
    simp only[qo,List.length_append,List.length_cons,List.length_nil] at h2 ⊢
    omega
theorem qg5 {F:Nat→Prop} {V:AV} {names:List (List Nat)} (h:SlRep F s V names) (h1:names.length≤600) (h2:∀ p∈names,p.length≤1000) :
    YN pr1 r (.fn 149 []) [V,.str [47]] a dst s k kp=zN a dst (.str (qo [47] names)) s k:=by
  have hl:=qee h2
  have e1:Nat.ble (qo [47] names).length 1000000=true:=Nat.ble_eq.mpr (by omega)
  have e2:Nat.ble names.length 1000000=true:=Nat.ble_eq.mpr (by omega)
  refine Xm (pe1 (by decide)) ?_
  unfold pr1
  rw[Qx (by decide),Qx (by decide)]
  show (match WO s V with
      | some l=>bif Nat.ble (qo [47] l).length 1000000&&Nat.ble l.length 1000000 then some (AV.str (qo [47] l),s) else none
      | none=>none)=_
  rw[qw6 h]
  simp only[e1,e2,Bool.and_self,cond_true]
end
theorem qmy {F:Nat→Prop} {s:St} {V:AV} {names:List (List Nat)} (h:SlRep F s V names):Q5 TE s [36] [V]=some (qa names.length):=by
  rcases h with⟨rfl,rfl⟩|⟨id,cap,cs,rfl,_⟩ <;> kernel_rfl
theorem qad {F:Nat→Prop} {s:St} {V:AV} {names:List (List Nat)} (h:SlRep F s V names):QG V=[]:=by
  rcases h with⟨rfl,rfl⟩|⟨id,cap,cs,rfl,_⟩ <;> rfl
theorem qlw {id off len ci cap:Nat} {ex:Bool} {lo hi:Option AV}:qF TE 36 (.slice id off len ci cap ex) lo hi none=match qA len cap lo hi with
    | some (l,h)=>bif Nat.blt l cap||Nat.beq l 0 then some (.slice id (off+l * 1) (h - l) (ci+l) (cap - l) ex) else bif ex then some (.slice id off 0 ci 0 true) else some (.esl id off ci l 1)
    | none=>none:=by
  have h:qF TE 36 (.slice id off len ci cap ex) lo hi none=(match (some { desc:=.string,size:=1,bytes:=16,zero:=some (.string ⟨#[]⟩) }:Option TI),qA len cap lo hi with
      | some el,some (l,h) =>
        bif Nat.blt l cap||Nat.beq l 0 then some (.slice id (off+l * el.size) (h - l) (ci+l) (cap - l) ex)
        else bif ex then some (.slice id off 0 ci 0 true)
        else some (.esl id off ci l el.size)
      | _,_=>none):=by kernel_rfl
  rw[h]
  cases qA len cap lo hi with
  | none=>rfl
  | some x=>rfl
theorem qgf {F:Nat→Prop} {s:St} {V:AV} {names:List (List Nat)} {j:Nat} (h:SlRep F s V names) (hj:j≤names.length) :
    ∃ V',qF TE 36 V none (some (.raw (.int .i64 (j:Int)))) none=some V'∧SlRep F s V' (names.take j):=by
  rcases h with⟨rfl,rfl⟩|⟨id,cap,cs,rfl,h2,h3,h4,h5,h6,h7⟩
  · simp only[List.length_nil,Nat.le_zero_eq] at hj
    subst hj
    exact⟨.raw (.slice none 0 0),by kernel_rfl,Or.inl ⟨rfl,rfl⟩⟩
  · refine⟨.slice id 0 j 0 cap false,?_,Or.inr ⟨id,cap,cs,?_,h2,h3,h4,h5,?_,?_⟩⟩
    · rw[qlw,Xz (i:=j) zC (by omega)]
      simp
    · rw[List.length_take,Nat.min_eq_left hj]
    · rw[List.length_take];omega
    · rw[List.length_take,Nat.min_eq_left hj,List.map_take,← h7,List.take_take,Nat.min_eq_left hj]
theorem qv7 {ty:Nat} {names:List (List Nat)} {s:St} (h:names≠[]):JA ty names s=(.slice s.nx 0 names.length 0 names.length false,s.alloc (.cells (names.map .str) ty 2)):=by
  cases names with
  | nil=>exact absurd rfl h
  | cons _ _=>rfl
theorem Zl:∀ {b p:List Nat},p∈qv b→p.length≤b.length
  | [],p,h=>by simp[qv] at h;subst h;simp
  | x::l,p,h=>by
    simp only[qv] at h
    cases hx:Nat.beq x 47 with
    | true =>
      rw[hx] at h
      rcases List.mem_cons.1 h with rfl|h
      · simp
      · have:=Zl h;simp;omega
    | false =>
      rw[hx] at h
      simp only[cond_false] at h
      split at h
      · rename_i q qs hq
        rcases List.mem_cons.1 h with rfl|h
        · have:=Zl (b:=l) (p:=q) (by rw[hq];simp);simp;omega
        · have:=Zl (b:=l) (p:=p) (by rw[hq];simp[h]);simp;omega
      · rw[List.mem_singleton] at h;subst h;simp
def zK:List (List Nat)→List (List Nat)→Option (List (List Nat))
  | way,[]=>some way
  | way,p::ps=>bif eqB p [] then zK way ps else bif eqB p [46] then zK way ps else bif eqB p [46,46] then zK (way.take (way.length - 1)) ps
    else bif qfx p then none else zK (way++[p]) ps
def qq5:List Nat→Bool
  | []=>false
  | c::_=>!(Nat.beq c 47)
def Qf (cwd b:List Nat):List Nat × Nat:=bif Zt cwd then (bif eqB b [] then ([],400) else bif Nat.blt 560 b.length then ([],403) else
    match zK (bif qq5 b then qq cwd else[]) (qv b) with
    | none=>([],401)
    | some way=>bif Nat.blt 8 way.length then ([],402) else bif Nat.blt 140 (qo [47] way).length then ([],403) else (qo [47] way,0)) else ([],401)
def VX (x:List Nat × Nat):AV:=.tuple [.str x.1,.raw (.int .i64 (x.2:Int))]
abbrev FC (c i:Nat):Prop:=i≠0∧i≠1∧i≠2∧i≠c∧i≠c+1∧i≠c+2
end Go.AX
namespace Go.AX
open Go.Proofs Go.RowKit
set_option maxRecDepth 100000
set_option linter.unusedSimpArgs false
-- light
theorem qu5 (H0:Ok TE Tryz.prog (zc pn)) (H:Ok TE Tryz.prog pr1) {cwd b:List Nat} (hcw:cwd.length≤1000) (hca:zi cwd=true) (hba:zi b=true) {kr kp:AV→St→Bool} (hk:∀ s',kr (VX (Qf cwd b)) s'=true) :
    (sem Tryz.prog).call 128 [.str cwd,.str b] st0 kr kp=true:=by
  refine qp H 63 q0x rfl rfl ?_
  have ec:=fun {r a dst s k kp}=>qp7 (r:=r) (a:=a) (dst:=dst) (s:=s) (k:=k) (kp:=kp) hcw hca
  unfold Qf at hk
  cases hcl:Zt cwd with
  | false =>
    rw[hcl] at hk ec
    repeat (first|with_reducible (refine q9 H ?_;constructor)|simp only[rB,rQ,q8,qa,q7,qb,reduceIte,reduceCtorEq,Nat.reduceAdd,Nat.reduceLT,Nat.reduceEqDiff,UInt8.reduceToNat,XZ,Yb,pe1,pf1,ec,qct,JY,qD,YQ,Tryz.results128])
    exact hk _
  | true =>
  rw[hcl] at hk ec
  simp only[cond_true] at hk
  by_cases h0:b=[]
  · subst h0
    repeat (first|with_reducible (refine q9 H ?_;constructor)|simp only[rB,rQ,q8,qa,q7,qb,reduceIte,reduceCtorEq,Nat.reduceAdd,Nat.reduceLT,Nat.reduceEqDiff,UInt8.reduceToNat,XZ,Yb,pe1,pf1,ec,qS,qct,JY,qD,YQ,Tryz.results128])
    exact hk _
  have e0:=Qa h0
  rw[e0] at hk
  simp only[cond_false] at hk
  by_cases h1:b.length > 560
  · have e1:decide ((b.length:Int) > 560)=true:=by simp;omega
    rw[Nat.blt_eq.mpr h1] at hk
    repeat (first|with_reducible (refine q9 H ?_;constructor)|simp only[rB,rQ,q8,qa,q7,qb,reduceIte,reduceCtorEq,Nat.reduceAdd,Nat.reduceLT,Nat.reduceEqDiff,UInt8.reduceToNat,XZ,Yb,pe1,pf1,ec,e0,e1,ql,zD,qct,JY,qD,YQ,Tryz.results128])
    exact hk _
  have e1:decide ((b.length:Int) > 560)=false:=by simp;omega
  have e1':Nat.blt 560 b.length=false:=by rw[← Bool.not_eq_true,Nat.blt_eq];exact h1
  rw[e1'] at hk
  simp only[cond_false] at hk
  obtain⟨c,l0,hb⟩:∃ c l,b=c::l:=by cases b with|nil=>exact absurd rfl h0|cons c l=>exact⟨c,l,rfl⟩
  have eb0:b[0]?=some c:=by rw[hb];rfl
  have hpl:=Y8 b
  generalize hway:(bif qq5 b then qq cwd else[])=way0 at hk
  have hcl':cwd=[]∨(qv cwd).length≤8:=by
    unfold Zt at hcl
    by_cases hc0:cwd=[]
    · exact Or.inl hc0
    · rw[Qa hc0] at hcl
      simp only[cond_false,Bool.and_eq_true] at hcl
      exact Or.inr (Nat.le_of_ble_eq_true hcl.2.1)
  have hpc:(qq cwd).length≤8:=by
    rcases hcl' with rfl|h
    · simp[qq]
    · by_cases hc0:cwd=[]
      · subst hc0;simp[qq]
      · rw[zX hc0];exact h
  have hpm:∀ p∈qq cwd,p.length≤1000:=by
    intro p hp
    by_cases hc0:cwd=[]
    · subst hc0;cases hp
    · rw[zX hc0] at hp
      exact Nat.le_trans (Zl hp) hcw
  have hlen0:way0.length+(qv b).length≤600:=by
    subst hway
    cases qq5 b
    · simp only[cond_false,List.length_nil];omega
    · simp only[cond_true];omega
  have hw1:∀ p∈way0,p.length≤1000:=by
    subst hway
    cases qq5 b
    · intro p hp;cases hp
    · exact hpm
  by_cases hcc:c=47
  · have hw0:way0=[]:=by subst hway hcc;rw[hb];rfl
    have e2:((Int.ofNat c) != 47)=false:=by rw[hcc];rfl
    repeat (first|with_reducible (refine q9 H ?_;constructor)|simp only[rB,rQ,q8,qa,q7,qb,reduceIte,reduceCtorEq,Nat.reduceAdd,Nat.reduceLT,Nat.reduceEqDiff,UInt8.reduceToNat,XZ,Yb,qai,pe1,pf1,ec,e0,e1,e2,ql,qi6,q0s,eb0,zD,qH]|(with_reducible refine Zz H0 ?_))
    refine Z0 H0 (c:=3) (b:=b) (fun l s=>∃ way V,zK way l=zK way0 (qv b)∧s.h.get 0=some (.cells [.str []] 9 0)∧s.h.get 1=some (.cells [.raw (.int .i64 0)] 57 0)∧s.h.get 2=some (.cells [V] 36 0)∧SlRep (FC 3) s V way∧way.length+l.length≤600∧(∀ p∈way,p.length≤1000)∧6≤s.nx∧∀ q∈l,zi q=true∧q.length≤1000)
      (fun j s=>j=.ret∧s.h.get 0=some (.cells [.str []] 9 0)∧s.h.get 1=some (.cells [.raw (.int .i64 401)] 57 0)∧zK way0 (qv b)=none) 4 rfl (by simp only[rB,rQ,q8,qa,q7,qb,reduceIte,reduceCtorEq,Nat.reduceAdd,Nat.reduceLT,Nat.reduceEqDiff,UInt8.reduceToNat]) (by omega) rfl (by decide) ?_ ?_ ?_ (fun p=>⟨_,zG (by decide)⟩) ?_ ?_ ?_
    · rintro l s' i o hi ⟨way,V,h1,h2,h3,h4,h5,h6,h7,h8,h9⟩
      exact⟨way,V,h1,(qe (by omega)).trans h2,(qe (by omega)).trans h3,(qe (by omega)).trans h4,h5.set (by unfold FC;omega) o,h6,h7,h8,h9⟩
    · exact⟨way0,_,rfl,rfl,rfl,rfl,Or.inl ⟨rfl,hw0⟩,hlen0,hw1,Nat.le_refl _,fun q hq=>⟨ZQ hba hq,Nat.le_trans (Zl hq) (by omega)⟩⟩
    · rintro p l s1 t' k' ⟨way,V,h1,h2,h3,h4,h5,h6,h7,h8,h9⟩ g2 g3 ht' k1 k2
      rw[zG (by decide)] at ht'
      cases ht'
      have h6':way.length+l.length+1≤600:=by simp only[List.length_cons] at h6;omega
      repeat (first|with_reducible (refine q9 H ?_;constructor)|simp only[rB,rQ,q8,qa,q7,qb,reduceIte,reduceCtorEq,Nat.reduceAdd,Nat.reduceLT,Nat.reduceEqDiff,UInt8.reduceToNat])
      rw[Zg g3]
      by_cases p0:p=[]
      · subst p0
        repeat (first|with_reducible (refine q9 H ?_;constructor)|simp only[rB,rQ,q8,qa,q7,qb,reduceIte,reduceCtorEq,Nat.reduceAdd,Nat.reduceLT,Nat.reduceEqDiff,UInt8.reduceToNat,pe1,pf1,qS])
        rw[qZ hs_same]
        refine k1 _ ?_ ?_ hs_same ⟨way,V,?_,?_,?_,?_,?_,by omega,h7,h8,fun q hq=>h9 q (List.mem_cons_of_mem _ hq)⟩
        · exact (qe (by decide)).trans (qe (by decide))
        · exact (qe (by decide)).trans ((qe (by decide)).trans g2)
        · rw[← h1,zK,qS];rfl
        · exact (qe (by decide)).trans ((qe (by decide)).trans h2)
        · exact (qe (by decide)).trans ((qe (by decide)).trans h3)
        · exact (qe (by decide)).trans ((qe (by decide)).trans h4)
        · exact (h5.set (by decide) _).set (by decide) _
      have p0':=Qa p0
      by_cases p1:p=[46]
      · subst p1
        repeat (first|with_reducible (refine q9 H ?_;constructor)|simp only[rB,rQ,q8,qa,q7,qb,reduceIte,reduceCtorEq,Nat.reduceAdd,Nat.reduceLT,Nat.reduceEqDiff,UInt8.reduceToNat,pe1,pf1,p0',qS])
        rw[qZ hs_same]
        refine k1 _ ?_ ?_ hs_same ⟨way,V,?_,?_,?_,?_,?_,by omega,h7,h8,fun q hq=>h9 q (List.mem_cons_of_mem _ hq)⟩
        · exact (qe (by decide)).trans (qe (by decide))
        · exact (qe (by decide)).trans ((qe (by decide)).trans g2)
        · rw[← h1,zK,p0',qS];rfl
        · exact (qe (by decide)).trans ((qe (by decide)).trans h2)
        · exact (qe (by decide)).trans ((qe (by decide)).trans h3)
        · exact (qe (by decide)).trans ((qe (by decide)).trans h4)
        · exact (h5.set (by decide) _).set (by decide) _
      have p1':=Qa p1
      by_cases p2:p=[46,46]
      · subst p2
        obtain⟨V',ev,hr⟩:=qgf (j:=way.length - 1) h5 (by omega)
        obtain⟨c1,c2⟩:=hr.cells1
        have el:∀ s2,Q5 TE s2 [36] [V]=some (qa way.length):=fun s2=>by rcases h5 with⟨rfl,rfl⟩|⟨id,cap,cs,rfl,_⟩ <;> kernel_rfl
        have ei:=qad h5
        have ew:IntKind.i64.wrap ((way.length:Int) - 1)=(way.length:Int) - 1:=Go.IntWalk.i64_in _ (by omega)
        have em:(if (way.length:Int) - 1 > 0 then (way.length:Int) - 1 else 0)=((way.length - 1:Nat):Int):=by split <;> omega
        repeat (first|with_reducible (refine q9 H ?_;constructor)|simp only[rB,rQ,q8,qa,q7,qb,reduceIte,reduceCtorEq,Nat.reduceAdd,Nat.reduceLT,Nat.reduceEqDiff,UInt8.reduceToNat,pe1,pf1,p0',p1',qS,QJ,h4,el,ei,zf,ew,em,ev,KU _ _ _ _ c1 c2])
        rw[qZ ((qe (by decide)).trans hs_same)]
        refine k1 _ ?_ ?_ hs_same ⟨way.take (way.length - 1),V',?_,?_,?_,?_,?_,?_,?_,h8,fun q hq=>h9 q (List.mem_cons_of_mem _ hq)⟩
        · exact (qe (by decide)).trans ((qe (by decide)).trans (qe (by decide)))
        · exact (qe (by decide)).trans ((qe (by decide)).trans ((qe (by decide)).trans g2))
        · rw[← h1,zK,p0',p1',qS];rfl
        · exact (qe (by decide)).trans ((qe (by decide)).trans ((qe (by decide)).trans h2))
        · exact (qe (by decide)).trans ((qe (by decide)).trans ((qe (by decide)).trans h3))
        · exact (qe (by decide)).trans hs_same
        · exact ((hr.set (by decide) _).set (by decide) _).set (by decide) _
        · rw[List.length_take];omega
        · exact fun q hq=>h7 q (List.mem_of_mem_take hq)
      have p2':=Qa p2
      obtain⟨hpa,hpl1⟩:=h9 p (by simp)
      cases hbad:qfx p with
      | true =>
        have ez:(Zy p != 0)=true:=by unfold Zy;rw[p0',hbad];rfl
        repeat (first|with_reducible (refine q9 H ?_;constructor)|simp only[rB,rQ,q8,qa,q7,qb,reduceIte,reduceCtorEq,Nat.reduceAdd,Nat.reduceLT,Nat.reduceEqDiff,UInt8.reduceToNat,pe1,pf1,p0',p1',p2',qH,ez,qct,JY,h2,h3]|(with_reducible refine VD H0 hpa ?_))
        rw[XA ((qe (by decide)).trans ((qe (by decide)).trans hs_same))]
        refine k2 _ _ ?_ hs_same ⟨rfl,?_,?_,?_⟩
        · exact (qe (by decide)).trans ((qe (by decide)).trans ((qe (by decide)).trans ((qe (by decide)).trans g2)))
        · exact (qe (by decide)).trans ((qe (by decide)).trans hs_same)
        · exact (qe (by decide)).trans hs_same
        · rw[← h1,zK,p0',p1',p2',hbad];rfl
      | false =>
        have ez:(Zy p != 0)=false:=by unfold Zy;rw[p0',hbad];rfl
        repeat (first|with_reducible (refine q9 H ?_;constructor)|simp only[rB,rQ,q8,qa,q7,qb,reduceIte,reduceCtorEq,Nat.reduceAdd,Nat.reduceLT,Nat.reduceEqDiff,UInt8.reduceToNat,pe1,pf1,p0',p1',p2',qH,ez,QJ,h4,KX]|(with_reducible refine VD H0 hpa ?_))
        refine Jq (F:=FC 3) (p:=p) (names:=way) ((h5.set (by decide) _).alloc _) qu (by show FC 3 (s1.nx+1);unfold FC;omega) (by omega) ?_
        intro V' s2 hr hn hfr
        have hn':s1.nx+1≤s2.nx:=hn
        have hv:∀ i,i < 6→¬ FC 3 i:=fun i hi=>by unfold FC;omega
        have fr:∀ i,i < 6→i≠5→s2.h.get i=s1.h.get i:=fun i hi h5'=>(hfr i (hv i hi)).trans ((zg (by show i≠s1.nx;omega)).trans (qe h5'))
        have f2:=(fr 2 (by decide) (by decide)).trans h4
        have f5:=(hfr 5 (hv 5 (by decide))).trans ((zg (by show 5≠s1.nx;omega)).trans hs_same)
        obtain⟨c1,c2⟩:=hr.cells1
        repeat (first|with_reducible (refine q9 H ?_;constructor)|simp only[rB,rQ,q8,qa,q7,qb,reduceIte,reduceCtorEq,Nat.reduceAdd,Nat.reduceLT,Nat.reduceEqDiff,UInt8.reduceToNat,pe1,pf1,KU _ _ _ _ c1 c2,f2])
        rw[qZ ((qe (by decide)).trans f5)]
        refine k1 _ ?_ ?_ hs_same ⟨way++[p],V',?_,?_,?_,?_,?_,?_,?_,?_,fun q hq=>h9 q (List.mem_cons_of_mem _ hq)⟩
        · exact (qe (by decide)).trans ((qe (by decide)).trans (fr 3 (by decide) (by decide)))
        · exact (qe (by decide)).trans ((qe (by decide)).trans ((fr 4 (by decide) (by decide)).trans g2))
        · rw[← h1,zK,p0',p1',p2',hbad];rfl
        · exact (qe (by decide)).trans ((qe (by decide)).trans ((fr 0 (by decide) (by decide)).trans h2))
        · exact (qe (by decide)).trans ((qe (by decide)).trans ((fr 1 (by decide) (by decide)).trans h3))
        · exact (qe (by decide)).trans hs_same
        · exact (hr.set (by decide) _).set (by decide) _
        · rw[List.length_append,List.length_singleton];omega
        · intro q hq
          rcases List.mem_append.1 hq with hq|hq
          · exact h7 q hq
          · rw[List.mem_singleton] at hq;rw[hq];exact hpl1
        · show 6≤s2.nx;omega
    · rintro j s' o ⟨h1,h2,h3,h4⟩
      exact⟨h1,(qe (by decide)).trans h2,(qe (by decide)).trans h3,h4⟩
    · rintro s2 g2 ⟨way,V,h1,h2,h3,h4,h5,h6,h7,h8,h9⟩
      rw[zK] at h1
      rw[← h1] at hk
      simp only at hk
      have h6':way.length≤600:=by simpa using h6
      have ej:=fun {r a dst k kp}=>qg5 (r:=r) (a:=a) (dst:=dst) (s:=s2) (k:=k) (kp:=kp) h5 h6' h7
      have el:=qmy h5
      have ei:=qad h5
      by_cases q1:way.length > 8
      · have r1:decide ((way.length:Int) > 8)=true:=by simp;omega
        rw[Nat.blt_eq.mpr q1] at hk
        repeat (first|with_reducible (refine q9 H ?_;constructor)|simp only[rB,rQ,q8,qa,q7,qb,reduceIte,reduceCtorEq,Nat.reduceAdd,Nat.reduceLT,Nat.reduceEqDiff,UInt8.reduceToNat,pe1,pf1,QJ,h4,ej,el,ei,zD,r1,qct,JY,h2,h3])
        rw[qP ((qe (by decide)).trans ((qe (by decide)).trans g2))]
        repeat (first|with_reducible (refine q9 H ?_;constructor)|simp only[rB,rQ,q8,qa,q7,qb,reduceIte,reduceCtorEq,Nat.reduceAdd,Nat.reduceLT,Nat.reduceEqDiff,UInt8.reduceToNat,qD,YQ,Tryz.results128])
        exact hk _
      have r1:decide ((way.length:Int) > 8)=false:=by simp;omega
      have r1':Nat.blt 8 way.length=false:=by rw[← Bool.not_eq_true,Nat.blt_eq];exact q1
      rw[r1'] at hk
      simp only[cond_false] at hk
      by_cases q2:(qo [47] way).length > 140
      · have r2:decide (((qo [47] way).length:Int) > 140)=true:=by simp;omega
        rw[Nat.blt_eq.mpr q2] at hk
        repeat (first|with_reducible (refine q9 H ?_;constructor)|simp only[rB,rQ,q8,qa,q7,qb,reduceIte,reduceCtorEq,Nat.reduceAdd,Nat.reduceLT,Nat.reduceEqDiff,UInt8.reduceToNat,pe1,pf1,QJ,h4,ej,el,ei,zD,r1,r2,ql,qct,JY,h2,h3])
        rw[qP ((qe (by decide)).trans ((qe (by decide)).trans g2))]
        repeat (first|with_reducible (refine q9 H ?_;constructor)|simp only[rB,rQ,q8,qa,q7,qb,reduceIte,reduceCtorEq,Nat.reduceAdd,Nat.reduceLT,Nat.reduceEqDiff,UInt8.reduceToNat,qD,YQ,Tryz.results128])
        exact hk _
      have r2:decide (((qo [47] way).length:Int) > 140)=false:=by simp;omega
      have r2':Nat.blt 140 (qo [47] way).length=false:=by rw[← Bool.not_eq_true,Nat.blt_eq];exact q2
      rw[r2'] at hk
      repeat (first|with_reducible (refine q9 H ?_;constructor)|simp only[rB,rQ,q8,qa,q7,qb,reduceIte,reduceCtorEq,Nat.reduceAdd,Nat.reduceLT,Nat.reduceEqDiff,UInt8.reduceToNat,pe1,pf1,QJ,h4,ej,el,ei,zD,r1,r2,ql,qct,JY,h2,h3])
      rw[qP ((qe (by decide)).trans ((qe (by decide)).trans g2))]
      repeat (first|with_reducible (refine q9 H ?_;constructor)|simp only[rB,rQ,q8,qa,q7,qb,reduceIte,reduceCtorEq,Nat.reduceAdd,Nat.reduceLT,Nat.reduceEqDiff,UInt8.reduceToNat,qD,YQ,Tryz.results128])
      exact hk _
    · rintro j s2 g2 ⟨rfl,h2,h3,h4⟩
      rw[h4] at hk
      repeat (first|with_reducible (refine q9 H ?_;constructor)|simp only[rB,rQ,q8,qa,q7,qb,reduceIte,reduceCtorEq,Nat.reduceAdd,Nat.reduceLT,Nat.reduceEqDiff,UInt8.reduceToNat,qD,YQ,h2,h3])
      rw[qP g2]
      repeat (first|with_reducible (refine q9 H ?_;constructor)|simp only[rB,rQ,q8,qa,q7,qb,reduceIte,reduceCtorEq,Nat.reduceAdd,Nat.reduceLT,Nat.reduceEqDiff,UInt8.reduceToNat,qD,YQ,h2,h3,Tryz.results128])
      exact hk _
  · have hrel:qq5 b=true:=by rw[hb];simp only[qq5,QN hcc];rfl
    rw[hrel] at hway
    simp only[cond_true] at hway
    have e2:((Int.ofNat c) != 47)=true:=by
      simp only[bne_iff_ne,ne_eq]
      intro h
      exact hcc (by have h':((c:Nat):Int)=47:=h;omega)
    have ep:=fun {r a dst s k kp}=>qsy (r:=r) (a:=a) (dst:=dst) (s:=s) (k:=k) (kp:=kp) hcw
    by_cases hc0:cwd=[]
    · have hw0:way0=[]:=by rw[← hway,hc0];rfl
      have em:∀ s,JA 9 (qq cwd) s=(.raw (.slice none 0 0),s):=fun s=>by rw[hc0];rfl
      repeat (first|with_reducible (refine q9 H ?_;constructor)|simp only[rB,rQ,q8,qa,q7,qb,reduceIte,reduceCtorEq,Nat.reduceAdd,Nat.reduceLT,Nat.reduceEqDiff,UInt8.reduceToNat,XZ,Yb,qai,pe1,pf1,ec,e0,e1,e2,ql,qi6,q0s,eb0,zD,qH,ep,em,KU]|(with_reducible refine Zz H0 ?_))
      refine Z0 H0 (c:=3) (b:=b) (fun l s=>∃ way V,zK way l=zK way0 (qv b)∧s.h.get 0=some (.cells [.str []] 9 0)∧s.h.get 1=some (.cells [.raw (.int .i64 0)] 57 0)∧s.h.get 2=some (.cells [V] 36 0)∧SlRep (FC 3) s V way∧way.length+l.length≤600∧(∀ p∈way,p.length≤1000)∧6≤s.nx∧∀ q∈l,zi q=true∧q.length≤1000)
        (fun j s=>j=.ret∧s.h.get 0=some (.cells [.str []] 9 0)∧s.h.get 1=some (.cells [.raw (.int .i64 401)] 57 0)∧zK way0 (qv b)=none) 4 rfl (by simp only[rB,rQ,q8,qa,q7,qb,reduceIte,reduceCtorEq,Nat.reduceAdd,Nat.reduceLT,Nat.reduceEqDiff,UInt8.reduceToNat]) (by omega) rfl (by decide) ?_ ?_ ?_ (fun p=>⟨_,zG (by decide)⟩) ?_ ?_ ?_
      · rintro l s' i o hi ⟨way,V,h1,h2,h3,h4,h5,h6,h7,h8,h9⟩
        exact⟨way,V,h1,(qe (by omega)).trans h2,(qe (by omega)).trans h3,(qe (by omega)).trans h4,h5.set (by unfold FC;omega) o,h6,h7,h8,h9⟩
      · exact⟨way0,_,rfl,rfl,rfl,rfl,Or.inl ⟨rfl,hw0⟩,hlen0,hw1,Nat.le_refl _,fun q hq=>⟨ZQ hba hq,Nat.le_trans (Zl hq) (by omega)⟩⟩
      · rintro p l s1 t' k' ⟨way,V,h1,h2,h3,h4,h5,h6,h7,h8,h9⟩ g2 g3 ht' k1 k2
        rw[zG (by decide)] at ht'
        cases ht'
        have h6':way.length+l.length+1≤600:=by simp only[List.length_cons] at h6;omega
        repeat (first|with_reducible (refine q9 H ?_;constructor)|simp only[rB,rQ,q8,qa,q7,qb,reduceIte,reduceCtorEq,Nat.reduceAdd,Nat.reduceLT,Nat.reduceEqDiff,UInt8.reduceToNat])
        rw[Zg g3]
        by_cases p0:p=[]
        · subst p0
          repeat (first|with_reducible (refine q9 H ?_;constructor)|simp only[rB,rQ,q8,qa,q7,qb,reduceIte,reduceCtorEq,Nat.reduceAdd,Nat.reduceLT,Nat.reduceEqDiff,UInt8.reduceToNat,pe1,pf1,qS])
          rw[qZ hs_same]
          refine k1 _ ?_ ?_ hs_same ⟨way,V,?_,?_,?_,?_,?_,by omega,h7,h8,fun q hq=>h9 q (List.mem_cons_of_mem _ hq)⟩
          · exact (qe (by decide)).trans (qe (by decide))
          · exact (qe (by decide)).trans ((qe (by decide)).trans g2)
          · rw[← h1,zK,qS];rfl
          · exact (qe (by decide)).trans ((qe (by decide)).trans h2)
          · exact (qe (by decide)).trans ((qe (by decide)).trans h3)
          · exact (qe (by decide)).trans ((qe (by decide)).trans h4)
          · exact (h5.set (by decide) _).set (by decide) _
        have p0':=Qa p0
        by_cases p1:p=[46]
        · subst p1
          repeat (first|with_reducible (refine q9 H ?_;constructor)|simp only[rB,rQ,q8,qa,q7,qb,reduceIte,reduceCtorEq,Nat.reduceAdd,Nat.reduceLT,Nat.reduceEqDiff,UInt8.reduceToNat,pe1,pf1,p0',qS])
          rw[qZ hs_same]
          refine k1 _ ?_ ?_ hs_same ⟨way,V,?_,?_,?_,?_,?_,by omega,h7,h8,fun q hq=>h9 q (List.mem_cons_of_mem _ hq)⟩
          · exact (qe (by decide)).trans (qe (by decide))
          · exact (qe (by decide)).trans ((qe (by decide)).trans g2)
          · rw[← h1,zK,p0',qS];rfl
          · exact (qe (by decide)).trans ((qe (by decide)).trans h2)
          · exact (qe (by decide)).trans ((qe (by decide)).trans h3)
          · exact (qe (by decide)).trans ((qe (by decide)).trans h4)
          · exact (h5.set (by decide) _).set (by decide) _
        have p1':=Qa p1
        by_cases p2:p=[46,46]
        · subst p2
          obtain⟨V',ev,hr⟩:=qgf (j:=way.length - 1) h5 (by omega)
          obtain⟨c1,c2⟩:=hr.cells1
          have el:∀ s2,Q5 TE s2 [36] [V]=some (qa way.length):=fun s2=>by rcases h5 with⟨rfl,rfl⟩|⟨id,cap,cs,rfl,_⟩ <;> kernel_rfl
          have ei:=qad h5
          have ew:IntKind.i64.wrap ((way.length:Int) - 1)=(way.length:Int) - 1:=Go.IntWalk.i64_in _ (by omega)
          have em:(if (way.length:Int) - 1 > 0 then (way.length:Int) - 1 else 0)=((way.length - 1:Nat):Int):=by split <;> omega
          repeat (first|with_reducible (refine q9 H ?_;constructor)|simp only[rB,rQ,q8,qa,q7,qb,reduceIte,reduceCtorEq,Nat.reduceAdd,Nat.reduceLT,Nat.reduceEqDiff,UInt8.reduceToNat,pe1,pf1,p0',p1',qS,QJ,h4,el,ei,zf,ew,em,ev,KU _ _ _ _ c1 c2])
          rw[qZ ((qe (by decide)).trans hs_same)]
          refine k1 _ ?_ ?_ hs_same ⟨way.take (way.length - 1),V',?_,?_,?_,?_,?_,?_,?_,h8,fun q hq=>h9 q (List.mem_cons_of_mem _ hq)⟩
          · exact (qe (by decide)).trans ((qe (by decide)).trans (qe (by decide)))
          · exact (qe (by decide)).trans ((qe (by decide)).trans ((qe (by decide)).trans g2))
          · rw[← h1,zK,p0',p1',qS];rfl
          · exact (qe (by decide)).trans ((qe (by decide)).trans ((qe (by decide)).trans h2))
          · exact (qe (by decide)).trans ((qe (by decide)).trans ((qe (by decide)).trans h3))
          · exact (qe (by decide)).trans hs_same
          · exact ((hr.set (by decide) _).set (by decide) _).set (by decide) _
          · rw[List.length_take];omega
          · exact fun q hq=>h7 q (List.mem_of_mem_take hq)
        have p2':=Qa p2
        obtain⟨hpa,hpl1⟩:=h9 p (by simp)
        cases hbad:qfx p with
        | true =>
          have ez:(Zy p != 0)=true:=by unfold Zy;rw[p0',hbad];rfl
          repeat (first|with_reducible (refine q9 H ?_;constructor)|simp only[rB,rQ,q8,qa,q7,qb,reduceIte,reduceCtorEq,Nat.reduceAdd,Nat.reduceLT,Nat.reduceEqDiff,UInt8.reduceToNat,pe1,pf1,p0',p1',p2',qH,ez,qct,JY,h2,h3]|(with_reducible refine VD H0 hpa ?_))
          rw[XA ((qe (by decide)).trans ((qe (by decide)).trans hs_same))]
          refine k2 _ _ ?_ hs_same ⟨rfl,?_,?_,?_⟩
          · exact (qe (by decide)).trans ((qe (by decide)).trans ((qe (by decide)).trans ((qe (by decide)).trans g2)))
          · exact (qe (by decide)).trans ((qe (by decide)).trans hs_same)
          · exact (qe (by decide)).trans hs_same
          · rw[← h1,zK,p0',p1',p2',hbad];rfl
        | false =>
          have ez:(Zy p != 0)=false:=by unfold Zy;rw[p0',hbad];rfl
          repeat (first|with_reducible (refine q9 H ?_;constructor)|simp only[rB,rQ,q8,qa,q7,qb,reduceIte,reduceCtorEq,Nat.reduceAdd,Nat.reduceLT,Nat.reduceEqDiff,UInt8.reduceToNat,pe1,pf1,p0',p1',p2',qH,ez,QJ,h4,KX]|(with_reducible refine VD H0 hpa ?_))
          refine Jq (F:=FC 3) (p:=p) (names:=way) ((h5.set (by decide) _).alloc _) qu (by show FC 3 (s1.nx+1);unfold FC;omega) (by omega) ?_
          intro V' s2 hr hn hfr
          have hn':s1.nx+1≤s2.nx:=hn
          have hv:∀ i,i < 6→¬ FC 3 i:=fun i hi=>by unfold FC;omega
          have fr:∀ i,i < 6→i≠5→s2.h.get i=s1.h.get i:=fun i hi h5'=>(hfr i (hv i hi)).trans ((zg (by show i≠s1.nx;omega)).trans (qe h5'))
          have f2:=(fr 2 (by decide) (by decide)).trans h4
          have f5:=(hfr 5 (hv 5 (by decide))).trans ((zg (by show 5≠s1.nx;omega)).trans hs_same)
          obtain⟨c1,c2⟩:=hr.cells1
          repeat (first|with_reducible (refine q9 H ?_;constructor)|simp only[rB,rQ,q8,qa,q7,qb,reduceIte,reduceCtorEq,Nat.reduceAdd,Nat.reduceLT,Nat.reduceEqDiff,UInt8.reduceToNat,pe1,pf1,KU _ _ _ _ c1 c2,f2])
          rw[qZ ((qe (by decide)).trans f5)]
          refine k1 _ ?_ ?_ hs_same ⟨way++[p],V',?_,?_,?_,?_,?_,?_,?_,?_,fun q hq=>h9 q (List.mem_cons_of_mem _ hq)⟩
          · exact (qe (by decide)).trans ((qe (by decide)).trans (fr 3 (by decide) (by decide)))
          · exact (qe (by decide)).trans ((qe (by decide)).trans ((fr 4 (by decide) (by decide)).trans g2))
          · rw[← h1,zK,p0',p1',p2',hbad];rfl
          · exact (qe (by decide)).trans ((qe (by decide)).trans ((fr 0 (by decide) (by decide)).trans h2))
          · exact (qe (by decide)).trans ((qe (by decide)).trans ((fr 1 (by decide) (by decide)).trans h3))
          · exact (qe (by decide)).trans hs_same
          · exact (hr.set (by decide) _).set (by decide) _
          · rw[List.length_append,List.length_singleton];omega
          · intro q hq
            rcases List.mem_append.1 hq with hq|hq
            · exact h7 q hq
            · rw[List.mem_singleton] at hq;rw[hq];exact hpl1
          · show 6≤s2.nx;omega
      · rintro j s' o ⟨h1,h2,h3,h4⟩
        exact⟨h1,(qe (by decide)).trans h2,(qe (by decide)).trans h3,h4⟩
      · rintro s2 g2 ⟨way,V,h1,h2,h3,h4,h5,h6,h7,h8,h9⟩
        rw[zK] at h1
        rw[← h1] at hk
        simp only at hk
        have h6':way.length≤600:=by simpa using h6
        have ej:=fun {r a dst k kp}=>qg5 (r:=r) (a:=a) (dst:=dst) (s:=s2) (k:=k) (kp:=kp) h5 h6' h7
        have el:=qmy h5
        have ei:=qad h5
        by_cases q1:way.length > 8
        · have r1:decide ((way.length:Int) > 8)=true:=by simp;omega
          rw[Nat.blt_eq.mpr q1] at hk
          repeat (first|with_reducible (refine q9 H ?_;constructor)|simp only[rB,rQ,q8,qa,q7,qb,reduceIte,reduceCtorEq,Nat.reduceAdd,Nat.reduceLT,Nat.reduceEqDiff,UInt8.reduceToNat,pe1,pf1,QJ,h4,ej,el,ei,zD,r1,qct,JY,h2,h3])
          rw[qP ((qe (by decide)).trans ((qe (by decide)).trans g2))]
          repeat (first|with_reducible (refine q9 H ?_;constructor)|simp only[rB,rQ,q8,qa,q7,qb,reduceIte,reduceCtorEq,Nat.reduceAdd,Nat.reduceLT,Nat.reduceEqDiff,UInt8.reduceToNat,qD,YQ,Tryz.results128])
          exact hk _
        have r1:decide ((way.length:Int) > 8)=false:=by simp;omega
        have r1':Nat.blt 8 way.length=false:=by rw[← Bool.not_eq_true,Nat.blt_eq];exact q1
        rw[r1'] at hk
        simp only[cond_false] at hk
        by_cases q2:(qo [47] way).length > 140
        · have r2:decide (((qo [47] way).length:Int) > 140)=true:=by simp;omega
          rw[Nat.blt_eq.mpr q2] at hk
          repeat (first|with_reducible (refine q9 H ?_;constructor)|simp only[rB,rQ,q8,qa,q7,qb,reduceIte,reduceCtorEq,Nat.reduceAdd,Nat.reduceLT,Nat.reduceEqDiff,UInt8.reduceToNat,pe1,pf1,QJ,h4,ej,el,ei,zD,r1,r2,ql,qct,JY,h2,h3])
          rw[qP ((qe (by decide)).trans ((qe (by decide)).trans g2))]
          repeat (first|with_reducible (refine q9 H ?_;constructor)|simp only[rB,rQ,q8,qa,q7,qb,reduceIte,reduceCtorEq,Nat.reduceAdd,Nat.reduceLT,Nat.reduceEqDiff,UInt8.reduceToNat,qD,YQ,Tryz.results128])
          exact hk _
        have r2:decide (((qo [47] way).length:Int) > 140)=false:=by simp;omega
        have r2':Nat.blt 140 (qo [47] way).length=false:=by rw[← Bool.not_eq_true,Nat.blt_eq];exact q2
        rw[r2'] at hk
        repeat (first|with_reducible (refine q9 H ?_;constructor)|simp only[rB,rQ,q8,qa,q7,qb,reduceIte,reduceCtorEq,Nat.reduceAdd,Nat.reduceLT,Nat.reduceEqDiff,UInt8.reduceToNat,pe1,pf1,QJ,h4,ej,el,ei,zD,r1,r2,ql,qct,JY,h2,h3])
        rw[qP ((qe (by decide)).trans ((qe (by decide)).trans g2))]
        repeat (first|with_reducible (refine q9 H ?_;constructor)|simp only[rB,rQ,q8,qa,q7,qb,reduceIte,reduceCtorEq,Nat.reduceAdd,Nat.reduceLT,Nat.reduceEqDiff,UInt8.reduceToNat,qD,YQ,Tryz.results128])
        exact hk _
      · rintro j s2 g2 ⟨rfl,h2,h3,h4⟩
        rw[h4] at hk
        repeat (first|with_reducible (refine q9 H ?_;constructor)|simp only[rB,rQ,q8,qa,q7,qb,reduceIte,reduceCtorEq,Nat.reduceAdd,Nat.reduceLT,Nat.reduceEqDiff,UInt8.reduceToNat,qD,YQ,h2,h3])
        rw[qP g2]
        repeat (first|with_reducible (refine q9 H ?_;constructor)|simp only[rB,rQ,q8,qa,q7,qb,reduceIte,reduceCtorEq,Nat.reduceAdd,Nat.reduceLT,Nat.reduceEqDiff,UInt8.reduceToNat,qD,YQ,h2,h3,Tryz.results128])
        exact hk _
    · have hne:qq cwd≠[]:=by rw[zX hc0];exact Yk cwd
      have em:∀ s,JA 9 (qq cwd) s=(.slice s.nx 0 (qq cwd).length 0 (qq cwd).length false,s.alloc (.cells ((qq cwd).map .str) 9 2)):=fun s=>qv7 hne
      rw[hway] at em
      repeat (first|with_reducible (refine q9 H ?_;constructor)|simp only[rB,rQ,q8,qa,q7,qb,reduceIte,reduceCtorEq,Nat.reduceAdd,Nat.reduceLT,Nat.reduceEqDiff,UInt8.reduceToNat,XZ,Yb,qai,pe1,pf1,ec,e0,e1,e2,ql,qi6,q0s,eb0,zD,qH,ep,em,KU,hway]|(with_reducible refine Zz H0 ?_))
      have hr0:∀ s:St,3 < s.nx→s.h.get 3=some (.cells (way0.map .str) 9 2)→SlRep (FC 4) s (.slice 3 0 way0.length 0 way0.length false) way0:=fun s h1 h2 =>
        Or.inr ⟨3,way0.length,way0.map .str,rfl,by decide,h1,h2,by simp,Nat.le_refl _,by rw[List.take_of_length_le (by simp)]⟩
      refine Z0 H0 (c:=4) (b:=b) (fun l s=>∃ way V,zK way l=zK way0 (qv b)∧s.h.get 0=some (.cells [.str []] 9 0)∧s.h.get 1=some (.cells [.raw (.int .i64 0)] 57 0)∧s.h.get 2=some (.cells [V] 36 0)∧SlRep (FC 4) s V way∧way.length+l.length≤600∧(∀ p∈way,p.length≤1000)∧7≤s.nx∧∀ q∈l,zi q=true∧q.length≤1000)
        (fun j s=>j=.ret∧s.h.get 0=some (.cells [.str []] 9 0)∧s.h.get 1=some (.cells [.raw (.int .i64 401)] 57 0)∧zK way0 (qv b)=none) 5 rfl (by simp only[rB,rQ,q8,qa,q7,qb,reduceIte,reduceCtorEq,Nat.reduceAdd,Nat.reduceLT,Nat.reduceEqDiff,UInt8.reduceToNat]) (by omega) (by exact qu) (by decide) ?_ ?_ ?_ (fun p=>⟨_,zG (by decide)⟩) ?_ ?_ ?_
      · rintro l s' i o hi ⟨way,V,h1,h2,h3,h4,h5,h6,h7,h8,h9⟩
        exact⟨way,V,h1,(qe (by omega)).trans h2,(qe (by omega)).trans h3,(qe (by omega)).trans h4,h5.set (by unfold FC;omega) o,h6,h7,h8,h9⟩
      · exact⟨way0,.slice 3 0 way0.length 0 way0.length false,rfl,by simp only[rB,rQ,q8,qa,q7,qb,reduceIte,reduceCtorEq,Nat.reduceAdd,Nat.reduceLT,Nat.reduceEqDiff,UInt8.reduceToNat],by simp only[rB,rQ,q8,qa,q7,qb,reduceIte,reduceCtorEq,Nat.reduceAdd,Nat.reduceLT,Nat.reduceEqDiff,UInt8.reduceToNat],by simp only[rB,rQ,q8,qa,q7,qb,reduceIte,reduceCtorEq,Nat.reduceAdd,Nat.reduceLT,Nat.reduceEqDiff,UInt8.reduceToNat],hr0 _ (by show 3 < 7;decide) (by simp only[rB,rQ,q8,qa,q7,qb,reduceIte,reduceCtorEq,Nat.reduceAdd,Nat.reduceLT,Nat.reduceEqDiff,UInt8.reduceToNat]),hlen0,hw1,Nat.le_refl _,fun q hq=>⟨ZQ hba hq,Nat.le_trans (Zl hq) (by omega)⟩⟩
      · rintro p l s1 t' k' ⟨way,V,h1,h2,h3,h4,h5,h6,h7,h8,h9⟩ g2 g3 ht' k1 k2
        rw[zG (by decide)] at ht'
        cases ht'
        have h6':way.length+l.length+1≤600:=by simp only[List.length_cons] at h6;omega
        repeat (first|with_reducible (refine q9 H ?_;constructor)|simp only[rB,rQ,q8,qa,q7,qb,reduceIte,reduceCtorEq,Nat.reduceAdd,Nat.reduceLT,Nat.reduceEqDiff,UInt8.reduceToNat])
        rw[Zg g3]
        by_cases p0:p=[]
        · subst p0
          repeat (first|with_reducible (refine q9 H ?_;constructor)|simp only[rB,rQ,q8,qa,q7,qb,reduceIte,reduceCtorEq,Nat.reduceAdd,Nat.reduceLT,Nat.reduceEqDiff,UInt8.reduceToNat,pe1,pf1,qS])
          rw[qZ hs_same]
          refine k1 _ ?_ ?_ hs_same ⟨way,V,?_,?_,?_,?_,?_,by omega,h7,h8,fun q hq=>h9 q (List.mem_cons_of_mem _ hq)⟩
          · exact (qe (by decide)).trans (qe (by decide))
          · exact (qe (by decide)).trans ((qe (by decide)).trans g2)
          · rw[← h1,zK,qS];rfl
          · exact (qe (by decide)).trans ((qe (by decide)).trans h2)
          · exact (qe (by decide)).trans ((qe (by decide)).trans h3)
          · exact (qe (by decide)).trans ((qe (by decide)).trans h4)
          · exact (h5.set (by decide) _).set (by decide) _
        have p0':=Qa p0
        by_cases p1:p=[46]
        · subst p1
          repeat (first|with_reducible (refine q9 H ?_;constructor)|simp only[rB,rQ,q8,qa,q7,qb,reduceIte,reduceCtorEq,Nat.reduceAdd,Nat.reduceLT,Nat.reduceEqDiff,UInt8.reduceToNat,pe1,pf1,p0',qS])
          rw[qZ hs_same]
          refine k1 _ ?_ ?_ hs_same ⟨way,V,?_,?_,?_,?_,?_,by omega,h7,h8,fun q hq=>h9 q (List.mem_cons_of_mem _ hq)⟩
          · exact (qe (by decide)).trans (qe (by decide))
          · exact (qe (by decide)).trans ((qe (by decide)).trans g2)
          · rw[← h1,zK,p0',qS];rfl
          · exact (qe (by decide)).trans ((qe (by decide)).trans h2)
          · exact (qe (by decide)).trans ((qe (by decide)).trans h3)
          · exact (qe (by decide)).trans ((qe (by decide)).trans h4)
          · exact (h5.set (by decide) _).set (by decide) _
        have p1':=Qa p1
        by_cases p2:p=[46,46]
        · subst p2
          obtain⟨V',ev,hr⟩:=qgf (j:=way.length - 1) h5 (by omega)
          obtain⟨c1,c2⟩:=hr.cells1
          have el:∀ s2,Q5 TE s2 [36] [V]=some (qa way.length):=fun s2=>by rcases h5 with⟨rfl,rfl⟩|⟨id,cap,cs,rfl,_⟩ <;> kernel_rfl
          have ei:=qad h5
          have ew:IntKind.i64.wrap ((way.length:Int) - 1)=(way.length:Int) - 1:=Go.IntWalk.i64_in _ (by omega)
          have em:(if (way.length:Int) - 1 > 0 then (way.length:Int) - 1 else 0)=((way.length - 1:Nat):Int):=by split <;> omega
          repeat (first|with_reducible (refine q9 H ?_;constructor)|simp only[rB,rQ,q8,qa,q7,qb,reduceIte,reduceCtorEq,Nat.reduceAdd,Nat.reduceLT,Nat.reduceEqDiff,UInt8.reduceToNat,pe1,pf1,p0',p1',qS,QJ,h4,el,ei,zf,ew,em,ev,KU _ _ _ _ c1 c2])
          rw[qZ ((qe (by decide)).trans hs_same)]
          refine k1 _ ?_ ?_ hs_same ⟨way.take (way.length - 1),V',?_,?_,?_,?_,?_,?_,?_,h8,fun q hq=>h9 q (List.mem_cons_of_mem _ hq)⟩
          · exact (qe (by decide)).trans ((qe (by decide)).trans (qe (by decide)))
          · exact (qe (by decide)).trans ((qe (by decide)).trans ((qe (by decide)).trans g2))
          · rw[← h1,zK,p0',p1',qS];rfl
          · exact (qe (by decide)).trans ((qe (by decide)).trans ((qe (by decide)).trans h2))
          · exact (qe (by decide)).trans ((qe (by decide)).trans ((qe (by decide)).trans h3))
          · exact (qe (by decide)).trans hs_same
          · exact ((hr.set (by decide) _).set (by decide) _).set (by decide) _
          · rw[List.length_take];omega
          · exact fun q hq=>h7 q (List.mem_of_mem_take hq)
        have p2':=Qa p2
        obtain⟨hpa,hpl1⟩:=h9 p (by simp)
        cases hbad:qfx p with
        | true =>
          have ez:(Zy p != 0)=true:=by unfold Zy;rw[p0',hbad];rfl
          repeat (first|with_reducible (refine q9 H ?_;constructor)|simp only[rB,rQ,q8,qa,q7,qb,reduceIte,reduceCtorEq,Nat.reduceAdd,Nat.reduceLT,Nat.reduceEqDiff,UInt8.reduceToNat,pe1,pf1,p0',p1',p2',qH,ez,qct,JY,h2,h3]|(with_reducible refine VD H0 hpa ?_))
          rw[XA ((qe (by decide)).trans ((qe (by decide)).trans hs_same))]
          refine k2 _ _ ?_ hs_same ⟨rfl,?_,?_,?_⟩
          · exact (qe (by decide)).trans ((qe (by decide)).trans ((qe (by decide)).trans ((qe (by decide)).trans g2)))
          · exact (qe (by decide)).trans ((qe (by decide)).trans hs_same)
          · exact (qe (by decide)).trans hs_same
          · rw[← h1,zK,p0',p1',p2',hbad];rfl
        | false =>
          have ez:(Zy p != 0)=false:=by unfold Zy;rw[p0',hbad];rfl
          repeat (first|with_reducible (refine q9 H ?_;constructor)|simp only[rB,rQ,q8,qa,q7,qb,reduceIte,reduceCtorEq,Nat.reduceAdd,Nat.reduceLT,Nat.reduceEqDiff,UInt8.reduceToNat,pe1,pf1,p0',p1',p2',qH,ez,QJ,h4,KX]|(with_reducible refine VD H0 hpa ?_))
          refine Jq (F:=FC 4) (p:=p) (names:=way) ((h5.set (by decide) _).alloc _) qu (by show FC 4 (s1.nx+1);unfold FC;omega) (by omega) ?_
          intro V' s2 hr hn hfr
          have hn':s1.nx+1≤s2.nx:=hn
          have hv:∀ i,i < 7→i≠3→¬ FC 4 i:=fun i hi h3'=>by unfold FC;omega
          have fr:∀ i,i < 7→i≠6→i≠3→s2.h.get i=s1.h.get i:=fun i hi h5' h3'=>(hfr i (hv i hi h3')).trans ((zg (by show i≠s1.nx;omega)).trans (qe h5'))
          have f2:=(fr 2 (by decide) (by decide) (by decide)).trans h4
          have f5:=(hfr 6 (hv 6 (by decide) (by decide))).trans ((zg (by show 6≠s1.nx;omega)).trans hs_same)
          obtain⟨c1,c2⟩:=hr.cells1
          repeat (first|with_reducible (refine q9 H ?_;constructor)|simp only[rB,rQ,q8,qa,q7,qb,reduceIte,reduceCtorEq,Nat.reduceAdd,Nat.reduceLT,Nat.reduceEqDiff,UInt8.reduceToNat,pe1,pf1,KU _ _ _ _ c1 c2,f2])
          rw[qZ ((qe (by decide)).trans f5)]
          refine k1 _ ?_ ?_ hs_same ⟨way++[p],V',?_,?_,?_,?_,?_,?_,?_,?_,fun q hq=>h9 q (List.mem_cons_of_mem _ hq)⟩
          · exact (qe (by decide)).trans ((qe (by decide)).trans (fr 4 (by decide) (by decide) (by decide)))
          · exact (qe (by decide)).trans ((qe (by decide)).trans ((fr 5 (by decide) (by decide) (by decide)).trans g2))
          · rw[← h1,zK,p0',p1',p2',hbad];rfl
          · exact (qe (by decide)).trans ((qe (by decide)).trans ((fr 0 (by decide) (by decide) (by decide)).trans h2))
          · exact (qe (by decide)).trans ((qe (by decide)).trans ((fr 1 (by decide) (by decide) (by decide)).trans h3))
          · exact (qe (by decide)).trans hs_same
          · exact (hr.set (by decide) _).set (by decide) _
          · rw[List.length_append,List.length_singleton];omega
          · intro q hq
            rcases List.mem_append.1 hq with hq|hq
            · exact h7 q hq
            · rw[List.mem_singleton] at hq;rw[hq];exact hpl1
          · show 7≤s2.nx;omega
      · rintro j s' o ⟨h1,h2,h3,h4⟩
        exact⟨h1,(qe (by decide)).trans h2,(qe (by decide)).trans h3,h4⟩
      · rintro s2 g2 ⟨way,V,h1,h2,h3,h4,h5,h6,h7,h8,h9⟩
        rw[zK] at h1
        rw[← h1] at hk
        simp only at hk
        have h6':way.length≤600:=by simpa using h6
        have ej:=fun {r a dst k kp}=>qg5 (r:=r) (a:=a) (dst:=dst) (s:=s2) (k:=k) (kp:=kp) h5 h6' h7
        have el:=qmy h5
        have ei:=qad h5
        by_cases q1:way.length > 8
        · have r1:decide ((way.length:Int) > 8)=true:=by simp;omega
          rw[Nat.blt_eq.mpr q1] at hk
          repeat (first|with_reducible (refine q9 H ?_;constructor)|simp only[rB,rQ,q8,qa,q7,qb,reduceIte,reduceCtorEq,Nat.reduceAdd,Nat.reduceLT,Nat.reduceEqDiff,UInt8.reduceToNat,pe1,pf1,QJ,h4,ej,el,ei,zD,r1,qct,JY,h2,h3])
          rw[qP ((qe (by decide)).trans ((qe (by decide)).trans g2))]
          repeat (first|with_reducible (refine q9 H ?_;constructor)|simp only[rB,rQ,q8,qa,q7,qb,reduceIte,reduceCtorEq,Nat.reduceAdd,Nat.reduceLT,Nat.reduceEqDiff,UInt8.reduceToNat,qD,YQ,Tryz.results128])
          exact hk _
        have r1:decide ((way.length:Int) > 8)=false:=by simp;omega
        have r1':Nat.blt 8 way.length=false:=by rw[← Bool.not_eq_true,Nat.blt_eq];exact q1
        rw[r1'] at hk
        simp only[cond_false] at hk
        by_cases q2:(qo [47] way).length > 140
        · have r2:decide (((qo [47] way).length:Int) > 140)=true:=by simp;omega
          rw[Nat.blt_eq.mpr q2] at hk
          repeat (first|with_reducible (refine q9 H ?_;constructor)|simp only[rB,rQ,q8,qa,q7,qb,reduceIte,reduceCtorEq,Nat.reduceAdd,Nat.reduceLT,Nat.reduceEqDiff,UInt8.reduceToNat,pe1,pf1,QJ,h4,ej,el,ei,zD,r1,r2,ql,qct,JY,h2,h3])
          rw[qP ((qe (by decide)).trans ((qe (by decide)).trans g2))]
          repeat (first|with_reducible (refine q9 H ?_;constructor)|simp only[rB,rQ,q8,qa,q7,qb,reduceIte,reduceCtorEq,Nat.reduceAdd,Nat.reduceLT,Nat.reduceEqDiff,UInt8.reduceToNat,qD,YQ,Tryz.results128])
          exact hk _
        have r2:decide (((qo [47] way).length:Int) > 140)=false:=by simp;omega
        have r2':Nat.blt 140 (qo [47] way).length=false:=by rw[← Bool.not_eq_true,Nat.blt_eq];exact q2
        rw[r2'] at hk
        repeat (first|with_reducible (refine q9 H ?_;constructor)|simp only[rB,rQ,q8,qa,q7,qb,reduceIte,reduceCtorEq,Nat.reduceAdd,Nat.reduceLT,Nat.reduceEqDiff,UInt8.reduceToNat,pe1,pf1,QJ,h4,ej,el,ei,zD,r1,r2,ql,qct,JY,h2,h3])
        rw[qP ((qe (by decide)).trans ((qe (by decide)).trans g2))]
        repeat (first|with_reducible (refine q9 H ?_;constructor)|simp only[rB,rQ,q8,qa,q7,qb,reduceIte,reduceCtorEq,Nat.reduceAdd,Nat.reduceLT,Nat.reduceEqDiff,UInt8.reduceToNat,qD,YQ,Tryz.results128])
        exact hk _
      · rintro j s2 g2 ⟨rfl,h2,h3,h4⟩
        rw[h4] at hk
        repeat (first|with_reducible (refine q9 H ?_;constructor)|simp only[rB,rQ,q8,qa,q7,qb,reduceIte,reduceCtorEq,Nat.reduceAdd,Nat.reduceLT,Nat.reduceEqDiff,UInt8.reduceToNat,qD,YQ,h2,h3])
        rw[qP g2]
        repeat (first|with_reducible (refine q9 H ?_;constructor)|simp only[rB,rQ,q8,qa,q7,qb,reduceIte,reduceCtorEq,Nat.reduceAdd,Nat.reduceLT,Nat.reduceEqDiff,UInt8.reduceToNat,qD,YQ,h2,h3,Tryz.results128])
        exact hk _
-- light
def qca (args:List AV) (s:St):Option (AV × St):=match args with
  | [.str cwd,.str b]=>bif Nat.ble cwd.length 1000&&(zi cwd&&zi b) then some (VX (Qf cwd b),s) else none
  | _=>none
def YP (a b:List Nat):List Nat:=bif eqB a [] then b else bif eqB b [] then a else a++(47::b)
def qh9 (args:List AV) (s:St):Option (AV × St):=match args with
  | [.str a,.str b]=>bif Nat.ble (a.length+b.length) 1000000 then some (.str (YP a b),s) else none
  | _=>none
def pr2:Prims:=(pr1.add 128 qca).add 103 qh9
theorem q0c {s:St} (H:Ok TE Tryz.prog pr1) {a b:List Nat} (hl:a.length+b.length≤1000000) {kr kp:AV→St→Bool} (hk:kr (.str (YP a b)) s=true) :
    (sem Tryz.prog).call 103 [.str a,.str b] s kr kp=true:=by
  refine qp H 18 qz9 rfl rfl ?_
  have h0:=fun {x y:List Nat} (h:x.length+y.length≤1048576)=>JJ h
  unfold YP at hk
  by_cases ha:a=[]
  · subst ha
    have hl1:([]:List Nat).length+b.length≤1048576:=by omega
    repeat (first|with_reducible (refine q9 H ?_;constructor)|simp only[rB,rQ,q8,qa,q7,qb,reduceIte,reduceCtorEq,Nat.reduceAdd,Nat.reduceLT,Nat.reduceEqDiff,UInt8.reduceToNat,qS,JJ hl1,Tryz.results103])
    exact hk
  have ea:=Qa ha
  rw[ea] at hk
  by_cases hb:b=[]
  · subst hb
    have hl1:a.length+([]:List Nat).length≤1048576:=by omega
    repeat (first|with_reducible (refine q9 H ?_;constructor)|simp only[rB,rQ,q8,qa,q7,qb,reduceIte,reduceCtorEq,Nat.reduceAdd,Nat.reduceLT,Nat.reduceEqDiff,UInt8.reduceToNat,qS,ea,JJ hl1,Tryz.results103])
    exact hk
  have eb:=Qa hb
  rw[eb] at hk
  have hl1:a.length+([47]:List Nat).length≤1048576:=by simp;omega
  have hl2:(a++[47]).length+b.length≤1048576:=by simp;omega
  repeat (first|with_reducible (refine q9 H ?_;constructor)|simp only[rB,rQ,q8,qa,q7,qb,reduceIte,reduceCtorEq,Nat.reduceAdd,Nat.reduceLT,Nat.reduceEqDiff,UInt8.reduceToNat,ea,eb,JJ hl1,JJ hl2,Tryz.results103])
  rw[List.append_assoc]
  exact hk
theorem qk7 (H0:Ok TE Tryz.prog (zc pn)) {args:List AV} {s s':St} {v:AV} {w0 w:World} {E:Em} {Args:List Value} (h:qca args s=some (v,s')) (hv:VRels E args Args) (hs:Sim w0 E s w) :
    Qy Tryz.prog 128∧CallsIn (FW none) 0 Tryz.prog 128 Args.toArray w fun en w'=>∃ V E',en=.returned V∧E.le E'∧VRel E' v V∧Sim w0 E' s' w':=by
  unfold qca at h
  split at h
  · rename_i cwd b
    cases hb:(Nat.ble cwd.length 1000&&(zi cwd&&zi b)) with
    | false=>rw[hb] at h;cases h
    | true =>
      rw[hb] at h
      simp only[cond_true,Option.some.injEq,Prod.mk.injEq] at h
      obtain⟨rfl,rfl⟩:=h
      simp only[Bool.and_eq_true] at hb
      exact Yo rfl rfl (fun kr kp hk=>qu5 H0 (ok1 H0) (Nat.le_of_ble_eq_true hb.1) hb.2.1 hb.2.2 hk) hv hs
  · cases h
theorem qnx (H0:Ok TE Tryz.prog (zc pn)) {args:List AV} {s s':St} {v:AV} {w0 w:World} {E:Em} {Args:List Value} (h:qh9 args s=some (v,s')) (hv:VRels E args Args) (hs:Sim w0 E s w) :
    Qy Tryz.prog 103∧CallsIn (FW none) 0 Tryz.prog 103 Args.toArray w fun en w'=>∃ V E',en=.returned V∧E.le E'∧VRel E' v V∧Sim w0 E' s' w':=by
  unfold qh9 at h
  split at h
  · rename_i a b
    cases hb:Nat.ble (a.length+b.length) 1000000 with
    | false=>rw[hb] at h;cases h
    | true =>
      rw[hb] at h
      simp only[cond_true,Option.some.injEq,Prod.mk.injEq] at h
      obtain⟨rfl,rfl⟩:=h
      exact Yo rfl rfl (fun kr kp hk=>q0c (ok1 H0) (Nat.le_of_ble_eq_true hb) (hk _)) hv hs
  · cases h
theorem ok2 (H0:Ok TE Tryz.prog (zc pn)):Ok TE Tryz.prog pr2:=⟨H0.prog,J0 (J0 (ok1 H0).prims (fun h hv hs=>qk7 H0 h hv hs)) (fun h hv hs=>qnx H0 h hv hs)⟩
theorem ok0:Ok TE Tryz.prog (zc pn):=⟨Tryz.progOk,qsc Tryz.libOk⟩
end Go.AX
